/- The abstract executor, part 17: functions: a spec holds if 'awp' says so of the body. -/
import Derived.Test.YtcfphoffpbncmaaAXA16
set_option linter.unusedVariables false
set_option linter.unusedSimpArgs false
namespace Go.AX
open Go.RowKit
section
variable {P : Program} {E : Env}
theorem as_of_sure {v : Value} {α : Type} {f : Addr → Sem α} {w w' : World} {r : α} (h : (do let a ← Instr.sureAddr v; f a : Sem α).run P w = .ok r w') : (do let a ← asAddr v; f a : Sem α).run P w = .ok r w' := by
  unfold Instr.sureAddr at h
  unfold asAddr
  split at h
  · exact h
  · simp [stuck] at h
def readResult (tmps : Array Value) : ResultVar → Sem Value
  | .tmp t => pure (tmps.getD t undef)
  | .cell a t => do loadVar t (← asAddr (tmps.getD a undef))
theorem resVal_run (hE : EnvOk P E) {w : World} {β : Bs} {st : St} {a : Act} (hS : SRep w β st a) : ∀ (l : List ResultVar) {K : List SV → Prop}, resVal E st l K →
    ∃ xs us, K xs ∧ repL (SV.rep w β st.hp) xs us ∧ (l.mapM (readResult a.tmps)).run P w = .ok us w ∧ us.length = l.length
  | [], K, h => ⟨[], [], h, trivial, by simp, rfl⟩
  | .tmp t :: l, K, h => by
    unfold resVal at h
    split at h
    · rename_i x hx
      obtain ⟨xs, us, h1, h2, h3, h4⟩ := resVal_run hE hS l h
      have hg := get_rep hS t
      rw [hx] at hg
      exact ⟨x :: xs, _ :: us, h1, ⟨hg, h2⟩, by rw [List.mapM_cons]; simp [readResult, h3], by simp [h4]⟩
    · exact h.elim
  | .cell p t :: l, K, h => by
    unfold resVal at h
    obtain ⟨sv, v, h0, h1, h2⟩ := aload0_run hE hS.hp (get_rep hS p) h
    dsimp only at h0
    obtain ⟨xs, us, k1, k2, k3, k4⟩ := resVal_run hE hS l h0
    have h3 := as_of_sure (f := fun a => loadVar t a) h2
    refine ⟨sv :: xs, v :: us, k1, ⟨h1, k2⟩, ?_, by simp [k4]⟩
    rw [List.mapM_cons]
    have h3 : (readResult a.tmps (.cell p t)).run P w = .ok v w := h3
    simp [h3, k3]
theorem run_results {fn : Func} {tmps : Array Value} {us : List Value} {w : World} (h : (fn.results.toList.mapM (readResult tmps)).run P w = .ok us w) : (results fn tmps).run P w = .ok (retVal us) w := by
  have e : results fn tmps = (do let vs ← fn.results.mapM (readResult tmps); pure (if h : vs.size = 1 then vs[0] else .tuple vs)) := by
    unfold results
    congr 1
  rw [e, Array.mapM_eq_mapM_toList]
  simp [h]
  split
  · rename_i hl
    match us, hl with
    | [u], _ => rfl
  · rename_i hne
    unfold retVal
    split
    · exact (hne rfl).elim
    · rfl
theorem covRes_spec {w : World} {β : Bs} {hp : List Obj} (hH : HRep w β hp) : ∀ {used : List Nat} {l : List TV} {ys : List SV} {us : List Value}, covRes hp used l ys → repL (SV.rep w β hp) ys us →
    ∃ used' labs f, CovR hp used used' labs f ∧ ∀ A, OkFor w β hp f A → TV.cons w A l us (Lab.bs labs β)
  | used, [], [], [], h, _ => ⟨used, [], [], .refl _ _, fun _ _ => rfl⟩
  | used, t :: l, y :: ys, u :: us, h, hr => by
    obtain ⟨u1, l1, f1, h1, h2, h3⟩ := TV.cov_spec hH (t := t) (y := y) h hr.1
    obtain ⟨u2, l2, f2, k2, k3⟩ := covRes_spec hH h1 hr.2
    exact ⟨u2, l1 ++ l2, f1 ++ f2, h2.comp k2, fun A hok => ⟨_, _, Lab.bs_append _ _ _, h3 A hok.left, k3 A hok.right⟩⟩
  | _, [], _ :: _, _, h, _ => h.elim
  | _, _ :: _, [], _, h, _ => h.elim
  | _, [], [], _ :: _, _, hr => hr.elim
  | _, _ :: _, _ :: _, [], _, hr => hr.elim
theorem args_con {w : World} {A : Acc} {a : Act} {n : Nat} : ∀ (args : List TV) (vs : List Value) (j m : Nat) (os : List Fp), TV.cons w A args vs os → j + args.length ≤ n → (∀ k u, vs[k]? = some u → a.tmps.getD (j + k) undef = u) → schCons w A a n (argSt m j args) os
  | [], [], _, _, _, h, _, _ => h
  | t :: l, u :: us, j, m, _, ⟨o1, o2, ho, h1, h2⟩, hn, hv => by
    subst ho
    simp at hn
    refine ⟨by omega, o1, o2, rfl, ?_, args_con l us (j + 1) m o2 h2 (by omega) (fun k v hk => ?_)⟩
    · have := hv 0 u rfl
      rw [Nat.add_zero] at this
      rw [this]
      exact h1
    · have := hv (k + 1) v hk
      rw [← this]
      congr 1
      omega
  | [], _ :: _, _, _, _, h, _, _ => h.elim
  | _ :: _, [], _, _, _, h, _, _ => h.elim
theorem TV.cons_len {w : World} {A : Acc} : ∀ {args : List TV} {vs : List Value} {os : List Fp}, TV.cons w A args vs os → args.length = vs.length
  | [], [], _, _ => rfl
  | _ :: _, _ :: _, _, ⟨_, _, _, _, h⟩ => by simp [TV.cons_len h]
  | [], _ :: _, _, h => h.elim
  | _ :: _, [], _, h => h.elim
/-- Results that hold no memory that was only lent. -/
theorem T0.up_con {w : World} {A : Acc} {ok : Nat → Prop} (h : Stays w w A.ok ok) {t : T0} {u : Value} {os : List Fp} (hr : t.up.con w A u os) : t.con w (.of ok) u os := by
  cases t with
  | v x => exact hr
  | sl e r xs => exact ⟨slRep.mono h hr.1, hr.2⟩
  | own e r xs =>
    obtain ⟨o, ho, hu, hro⟩ := hr
    exact ⟨o, ho, hu, hro.mono h (fun _ _ _ => rfl)⟩
  | rptr r xs i off => exact absurd hr.1.2 (by rw [hr.1.1]; simp [Value.oneCell'])
  | clo f r x => exact absurd hr.1.2 (by rw [hr.1.1]; simp [Value.oneCell'])
  | bs r xs => exact absurd hr.1.2 (by rw [hr.1.1]; simp [Value.oneCell'])
  | er t c => exact hr
  | nest e pk eb r xs =>
    obtain ⟨F, ho, h1, h2, h3⟩ := hr
    exact ⟨F, ho, h1, h2, h3.same h fun _ _ _ _ => rfl⟩
theorem T0.ups_con {w : World} {A : Acc} {ok : Nat → Prop} (h : Stays w w A.ok ok) : ∀ {l : List T0} {m : List Value} {os : List Fp}, T0.cons w A (l.map T0.up) m os → T0.cons w (.of ok) l m os
  | [], [], _, hr => hr
  | t :: l, u :: m, _, ⟨o1, o2, ho, h1, h2⟩ => ⟨o1, o2, ho, T0.up_con h h1, T0.ups_con h h2⟩
  | [], _ :: _, _, hr => hr.elim
  | _ :: _, [], _, hr => hr.elim
theorem TV.ups_con {w : World} {A : Acc} {ok : Nat → Prop} (h : Stays w w A.ok ok) : ∀ {l : List TV} {m : List Value} {os : List Fp}, TV.cons w A (l.map TV.up) m os → TV.cons w (.of ok) l m os
  | [], [], _, hr => hr
  | t :: l, u :: m, _, ⟨o1, o2, ho, h1, h2⟩ => by
    refine ⟨o1, o2, ho, ?_, TV.ups_con h h2⟩
    cases t with
    | c t => exact T0.up_con h h1
    | agg ts => obtain ⟨l', hu, hl⟩ := h1; exact ⟨l', hu, T0.ups_con h hl⟩
    | box e ts => obtain ⟨l', g, c, oi, hu, hg, hl, hone, ho⟩ := h1; exact ⟨l', g, c, oi, hu, hg, T0.ups_con h hl, hone, ho⟩
  | [], _ :: _, _, hr => hr.elim
  | _ :: _, [], _, hr => hr.elim
theorem ioAt_lt : ∀ (md : List Md) (m j : Nat), j ∈ ioAt m md → m ≤ j ∧ j < m + md.length
  | [], m, j, h => by cases h
  | d :: ds, m, j, h => by
    unfold ioAt at h
    cases hd : d.io with
    | true =>
      rw [hd] at h
      rcases List.mem_cons.1 h with rfl | h
      · simp
      · have := ioAt_lt ds (m + 1) j h
        simp
        omega
    | false =>
      rw [hd] at h
      have := ioAt_lt ds (m + 1) j h
      simp
      omega
theorem ioAt_vals (f : Nat → Value) : ∀ (md : List Md) (vs : List Value) (m : Nat), md.length = vs.length → (∀ k u, vs[k]? = some u → f (m + k) = u) → (ioAt m md).map f = ioVals md vs
  | [], [], m, _, _ => rfl
  | d :: ds, v :: vs, m, hl, h => by
    have ih := ioAt_vals f ds vs (m + 1) (by simpa using hl) (fun k u hk => by
      have := h (k + 1) u hk
      rw [← this]
      congr 1
      omega)
    have h0 := h 0 v rfl
    rw [Nat.add_zero] at h0
    unfold ioAt ioVals
    cases d.io with
    | true => simp [h0, ih]
    | false => simp [ih]
  | [], _ :: _, _, hl, _ => by simp at hl
  | _ :: _, [], _, hl, _ => by simp at hl
theorem argSt_eq : ∀ (args : List TV) (m j : Nat), argSt m j args = argSt 0 j args
  | [], _, _ => rfl
  | t :: l, m, j => by unfold argSt; rw [argSt_eq l m]
theorem resVal_app {E : Env} {st : St} : ∀ (l m : List ResultVar) {K : List SV → Prop}, resVal E st (l ++ m) K → resVal E st l fun xs => resVal E st m fun ys => K (xs ++ ys)
  | [], m, K, h => h
  | .tmp t :: l, m, K, h => by
    unfold resVal
    have h : (match st.get t with
      | .s x => resVal E st (l ++ m) fun k => K (x :: k)
      | _ => False) := h
    split at h
    · rename_i x hx
      rw [hx]
      exact resVal_app l m h
    · exact h.elim
  | .cell p t :: l, m, K, h => by
    have h : (aload0 E t st.hp (st.get p) fun v _ => match v with
      | .s x => resVal E st (l ++ m) fun k => K (x :: k)
      | _ => False) := h
    have hp : Pt (aload0 E t st.hp (st.get p)) := by
      unfold aload0
      split
      · split
        · exact Pt.ite (fun _ => Pt1.bind mkSV_pt fun v => Pt.pure _ _) (fun _ => Pt.no)
        · split
          · exact Pt.ite (fun _ => Pt1.bind mkSV_pt fun v => Pt.pure _ _) (fun _ => Pt.no)
          · exact Pt.no
        · split
          · exact Pt.ite (fun _ => Pt1.bind mkSV_pt fun v => Pt.pure _ _) (fun _ => Pt.no)
          · exact Pt.no
        · exact Pt.no
      · exact Pt.no
    obtain ⟨v, b, h1, h2⟩ := hp _ h
    unfold resVal
    refine h2 _ ?_
    split at h1
    · exact resVal_app l m h1
    · exact h1.elim
theorem resVal_tmps {E : Env} {w : World} {β : Bs} {st : St} {a : Act} (hS : SRep w β st a) : ∀ (J : List Nat) {K : List SV → Prop}, resVal E st (J.map ResultVar.tmp) K → ∃ xs, K xs ∧ repL (SV.rep w β st.hp) xs (J.map fun j => a.tmps.getD j undef)
  | [], K, h => ⟨[], h, trivial⟩
  | j :: J, K, h => by
    have h : (match st.get j with
      | .s x => resVal E st (J.map ResultVar.tmp) fun k => K (x :: k)
      | _ => False) := h
    split at h
    · rename_i x hx
      obtain ⟨xs, h1, h2⟩ := resVal_tmps hS J h
      have hg := get_rep hS j
      rw [hx] at hg
      exact ⟨_, h1, hg, h2⟩
    · exact h.elim
theorem enters_of {f : Nat} {fn : Func} (hf : P.funcs[f]? = some fn) (hn : (fn.name == "runtime.NumGoroutine") = false) (hb : fn.body.isSome = true) : Enters P f := by
  intro args w
  unfold callFunc
  have hb' : ¬ fn.body = none := fun h => by rw [h] at hb; cases hb
  have hn' : ¬ fn.name = "runtime.NumGoroutine" := by simpa using hn
  simp [hf, hn', hb']
/-- **A spec of a function that writes to what it is handed holds if 'awp' says so of its body.** -/
theorem ispec_of (hE : EnvOk P E) {f : Nat} {fn : Func} (hf : P.funcs[f]? = some fn) (hn : (fn.name == "runtime.NumGoroutine") = false) {c : Code} (hb : fn.body = some c) {I : ISpec} (hJ : (ioAt 0 I.md).all (fun j => !(Code.dsts c).contains j) = true) (hr : I.md.length ≤ fn.ntmps)
    (hS : ∀ args, (I.S args).1 → args.length = I.md.length → ∃ C : Cfg, SpsOk P C.sp ∧ awp E C c (instAll (argSt 0 0 args) (emptySt fn.ntmps)) (iretK E fn.results.toList I.md (I.S args).2)) (hlen : ∀ args, (I.S args).1 → (I.S args).2.1.length = fn.results.toList.length) : ISpecOk P f I := by
  intro args vs w A os hao hbo hlt hap hcons hs hal
  obtain ⟨C, hsp, h⟩ := hS args hs hal
  refine .inl ⟨enters_of hf hn (by rw [hb]; rfl), calls_of_wp hf hb ?_⟩
  have hvl := TV.cons_len hcons
  let a : Act := { tmps := vs.toArray ++ Array.replicate (fn.ntmps - vs.toArray.size) undef, defers := [] }
  let out : Nat → Prop := fun b => b < w.heap.size ∧ ¬ A.ok b ∧ ¬ InOs os b
  have hsz : a.tmps.size = fn.ntmps := by
    show (vs.toArray ++ Array.replicate (fn.ntmps - vs.toArray.size) undef).size = _
    simp
    omega
  have htm : ∀ k u, vs[k]? = some u → a.tmps.getD (0 + k) undef = u := fun k u hk => by
    show (vs.toArray ++ Array.replicate (fn.ntmps - vs.toArray.size) undef).getD (0 + k) undef = u
    have hkl : k < vs.length := (List.getElem?_eq_some_iff.1 hk).1
    simp [Array.getD_eq_getD_getElem?, Array.getElem?_append_left, hkl]
    rw [List.getElem?_eq_getElem hkl] at hk
    exact Option.some.inj hk
  have hsc : schCons w A a fn.ntmps (argSt 0 0 args) os := args_con args vs 0 0 os hcons (by omega) htm
  obtain ⟨m1, m2, m3⟩ := sch_state (out := out) hsc hsz rfl (fun b hb => ⟨(hbo b (hao b hb)).1, fun h => h.2.1 hb, (hbo b (hao b hb)).2⟩) hbo hap (fun g hi h => h.2.2 hi) (fun b hb => hb.1)
  have hinv : Inv w out (InOs os) (ioAt 0 I.md) (fun j => a.tmps.getD j undef) fn.ntmps w (bof os out) (instAll (argSt 0 0 args) (emptySt fn.ntmps)) a := ⟨m1, m2, rfl, fun b hb => .inr (m3 b hb), ⟨rfl, rfl, rfl, Nat.le_refl _, fun _ _ _ => rfl⟩, fun _ _ => rfl⟩
  have hJ' : ∀ j, j ∈ ioAt 0 I.md → j ∉ Code.dsts c := fun j hj hm => by
    have := List.all_eq_true.1 hJ j hj
    simp [hm] at this
  refine Code.wp_mono (fun e a' w' q => ?_) (awp_run hE hsp c _ a w _ _ hJ' hinv h)
  have fin : ∀ β st, Inv w out (InOs os) (ioAt 0 I.md) (fun j => a.tmps.getD j undef) fn.ntmps w' β st a' → resVal E st (fn.results.toList ++ (ioAt 0 I.md).map .tmp) (covRes st.hp [] (((I.S args).2.1 ++ (I.S args).2.2).map TV.up)) →
      a'.defers = [] ∧ ∃ v, (results fn a'.tmps).run P w' = .ok v w' ∧ ∃ u, Ending.returned v = .returned u ∧ ∃ us os', u = retVal us ∧ TV.cons w' (.of (okRes w (fun b => A.ok b ∨ InOs os b) w' os')) ((I.S args).2.1 ++ (I.S args).2.2) (us ++ ioVals I.md vs) os' ∧ us.length = (I.S args).2.1.length ∧ Apart os' ∧ (∀ g, InOs os' g → w.heap.size ≤ g ∨ InOs os g) ∧ BelowX (InOs os) w w' := by
    intro β st hi hr
    obtain ⟨xs, us, hr2, h2, h3, hul⟩ := resVal_run hE hi.rep _ (resVal_app _ _ hr)
    obtain ⟨ys, hc, h4⟩ := resVal_tmps hi.rep _ hr2
    obtain ⟨used', labs, f', c1, c2⟩ := covRes_spec hi.rep.hp hc (repL.append _ _ _ _ h2 h4)
    obtain ⟨k1, k2⟩ := c1.okFor hi.rep.hp
    have hvals : (ioAt 0 I.md).map (fun j => a'.tmps.getD j undef) = ioVals I.md vs := by
      rw [← ioAt_vals (fun j => a.tmps.getD j undef) I.md vs 0 (by omega) htm]
      exact List.map_congr_left fun j hj => hi.fix j hj
    rw [hvals] at c2
    refine ⟨hi.rep.defers, _, run_results h3, _, rfl, us, Lab.bs labs β, rfl, ?_, ?_, k2, fun g hm => ?_, hi.below⟩
    · refine TV.ups_con ?_ (c2 _ k1)
      refine Stays.sub fun b hb => ⟨?_, hb.1, hb.2.2⟩
      have ho := hb.2.1
      rw [hi.out] at ho
      by_cases hbw : b < w.heap.size
      · by_cases hbi : InOs os b
        · exact .inl (.inr hbi)
        · exact .inl (.inl (Classical.byContradiction fun hn => ho ⟨hbw, hn, hbi⟩))
      · exact .inr (by omega)
    · rw [hul, hlen args hs]
    · obtain ⟨id, jj, cc, _, _, q1, q2⟩ := c1.mut hm
      exact hi.mt g ⟨id, jj, cc, q1, q2⟩
  cases e with
  | normal => obtain ⟨β, st, hi, hr⟩ := q; exact fin β st hi hr
  | ret => obtain ⟨β, st, hi, hr⟩ := q; exact fin β st hi hr
  | exit i => obtain ⟨β, st, hi, hr⟩ := q; exact hr.elim
  | _ => exact q.elim
/-- A spec of a function that writes to nothing. -/
theorem spec_of_awp (hE : EnvOk P E) {f : Nat} {fn : Func} {c : Code} (hf : P.funcs[f]? = some fn) (hb : fn.body = some c) (hen : Enters P f) {S : PSpec}
    (hS : ∀ args, (S args).1 → args.length ≤ fn.ntmps ∧ ∃ C : Cfg, SpsOk P C.sp ∧ awp E C c (instAll (argSt 0 0 args) (emptySt fn.ntmps)) (retK E fn.results.toList (S args).2)) : SpecOk P f S := by
  intro args vs w A hao hbo hcons hs
  obtain ⟨hlen, C, hsp, h⟩ := hS args hs
  refine .inl ⟨hen, calls_of_wp hf hb ?_⟩
  have hvl := TV.cons_len hcons
  let a : Act := { tmps := vs.toArray ++ Array.replicate (fn.ntmps - vs.toArray.size) undef, defers := [] }
  let out : Nat → Prop := fun b => b < w.heap.size ∧ ¬ A.ok b
  have hsz : a.tmps.size = fn.ntmps := by
    show (vs.toArray ++ Array.replicate (fn.ntmps - vs.toArray.size) undef).size = _
    simp
    omega
  have hsc : schCons w A a fn.ntmps (argSt 0 0 args) [] := args_con args vs 0 0 [] hcons (by omega) fun k u hk => by
    show (vs.toArray ++ Array.replicate (fn.ntmps - vs.toArray.size) undef).getD (0 + k) undef = u
    have hkl : k < vs.length := (List.getElem?_eq_some_iff.1 hk).1
    simp [Array.getD_eq_getD_getElem?, Array.getElem?_append_left, hkl]
    rw [List.getElem?_eq_getElem hkl] at hk
    exact Option.some.inj hk
  obtain ⟨m1, m2, m3⟩ := sch_state (out := out) hsc hsz rfl (fun b hb => ⟨hbo b (hao b hb), fun h => h.2 hb, fun h => h.nil⟩) (fun b hb => ⟨hbo b hb, fun h => h.nil⟩) Apart.nil (fun g hm => hm.nil.elim) (fun b hb => hb.1)
  have hinv : Inv w out (fun _ => False) [] (fun _ => undef) fn.ntmps w (bof [] out) (instAll (argSt 0 0 args) (emptySt fn.ntmps)) a := ⟨m1, m2, rfl, fun b hb => (m3 b hb).nil.elim, ⟨rfl, rfl, rfl, Nat.le_refl _, fun _ _ _ => rfl⟩, fun _ h => by cases h⟩
  refine Code.wp_mono (fun e a' w' q => ?_) (awp_run hE hsp c _ a w _ _ (fun _ h => by cases h) hinv h)
  have fin : ∀ β st, Inv w out (fun _ => False) [] (fun _ => undef) fn.ntmps w' β st a' → resVal E st fn.results.toList (covRes st.hp [] ((S args).2.map TV.up)) →
      a'.defers = [] ∧ ∃ v, (results fn a'.tmps).run P w' = .ok v w' ∧ ∃ u, Ending.returned v = .returned u ∧ ∃ us, u = retVal us ∧ ResRep w A.ok w' (S args).2 us ∧ Below w.heap.size w w' := by
    intro β st hi hr
    obtain ⟨xs, us, hc, h2, h3, _⟩ := resVal_run hE hi.rep _ hr
    obtain ⟨used', labs, f', c1, c2⟩ := covRes_spec hi.rep.hp hc h2
    obtain ⟨k1, k2⟩ := c1.okFor hi.rep.hp
    refine ⟨hi.rep.defers, _, run_results h3, _, rfl, us, rfl, ⟨Lab.bs labs β, ?_, k2, fun g hm => ?_⟩, ⟨hi.below.os, hi.below.tape, hi.below.output, hi.below.size, fun k hk => hi.below.block k hk fun h => h⟩⟩
    · refine TV.ups_con ?_ (c2 _ k1)
      refine Stays.sub fun b hb => ⟨?_, hb.1, hb.2.2⟩
      have ho := hb.2.1
      rw [hi.out] at ho
      by_cases hbw : b < w.heap.size
      · exact .inl (Classical.byContradiction fun hn => ho ⟨hbw, hn⟩)
      · exact .inr (by omega)
    · obtain ⟨id, jj, cc, _, _, q1, q2⟩ := c1.mut hm
      exact (hi.mt g ⟨id, jj, cc, q1, q2⟩).resolve_right fun h => h
  cases e with
  | normal => obtain ⟨β, st, hi, hr⟩ := q; exact fin β st hi hr
  | ret => obtain ⟨β, st, hi, hr⟩ := q; exact fin β st hi hr
  | exit i => obtain ⟨β, st, hi, hr⟩ := q; exact hr.elim
  | _ => exact q.elim
/-- **A spec of a function holds if 'awp' says so of its body.** -/
theorem pspec_of (hE : EnvOk P E) {f : Nat} {fn : Func} (hf : P.funcs[f]? = some fn) (hn : (fn.name == "runtime.NumGoroutine") = false) {S : PSpec}
    (hS : ∀ args, (S args).1 → args.length ≤ fn.ntmps ∧ ∃ C : Cfg, SpsOk P C.sp ∧ match fn.body with
      | some c => awp E C c (instAll (argSt 0 0 args) (emptySt fn.ntmps)) (retK E fn.results.toList (S args).2)
      | none => False) : SpecOk P f S := by
  intro args vs w A hao hbo hc hs
  obtain ⟨_, _, _, h⟩ := hS args hs
  cases hb : fn.body with
  | none => rw [hb] at h; exact h.elim
  | some c =>
    refine spec_of_awp hE hf hb (enters_of hf hn (by rw [hb]; rfl)) (fun args hs => ?_) args vs w A hao hbo hc hs
    obtain ⟨h1, C, h2, h3⟩ := hS args hs
    rw [hb] at h3
    exact ⟨h1, C, h2, h3⟩
/-- The same, where no call writes to what it is handed. -/
theorem spec_of (hE : EnvOk P E) {f : Nat} {fn : Func} (hf : P.funcs[f]? = some fn) (hn : (fn.name == "runtime.NumGoroutine") = false) {S : PSpec}
    (hS : ∀ args, (S args).1 → args.length ≤ fn.ntmps ∧ ∃ C : Cfg, (∀ f S, C.spec f = some S → SpecOk P f S) ∧ match fn.body with
      | some c => awp E { C with isp := fun _ => none } c (instAll (argSt 0 0 args) (emptySt fn.ntmps)) (retK E fn.results.toList (S args).2)
      | none => False) : SpecOk P f S :=
  pspec_of hE hf hn fun args hs => let ⟨h1, C, h2, h3⟩ := hS args hs; ⟨h1, { C with isp := fun _ => none }, ⟨h2, fun f s h => by cases h⟩, h3⟩
theorem spsOk_of {C : Cfg} (h : ∀ f S, C.spec f = some S → SpecOk P f S) (hi : C.isp = fun _ => none) : SpsOk P C.sp := ⟨h, fun f s e => by
  have e : C.isp f = some s := e
  rw [hi] at e
  cases e⟩
end
end Go.AX
