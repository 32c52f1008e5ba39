/- The abstract executor, part 17: functions: a spec holds if 'awp' says so of the body. -/
import Derived.Test.YtcfphoffpbncmaaAXA16
set_option linter.unusedVariables false
set_option linter.unusedSimpArgs false
namespace Go.AX
open Go.RowKit
section
variable {P : Program} {E : Env}
theorem as_of_sure {v : Value} {α : Type} {f : Addr → Sem α} {w w' : World} {r : α} (h : (do let a ← Instr.sureAddr v; f a : Sem α).run P w = .ok r w') : (do let a ← asAddr v; f a : Sem α).run P w = .ok r w' := by
  unfold Instr.sureAddr at h
  unfold asAddr
  split at h
  · exact h
  · simp [stuck] at h
def readResult (tmps : Array Value) : ResultVar → Sem Value
  | .tmp t => pure (tmps.getD t undef)
  | .cell a t => do loadVar t (← asAddr (tmps.getD a undef))
theorem resVal_run (hE : EnvOk P E) {w : World} {β : Bs} {st : St} {a : Act} (hS : SRep w β st a) : ∀ (l : List ResultVar) {K : List SV → Prop}, resVal E st l K →
    ∃ xs us, K xs ∧ repL (SV.rep w β st.hp) xs us ∧ (l.mapM (readResult a.tmps)).run P w = .ok us w
  | [], K, h => ⟨[], [], h, trivial, by simp⟩
  | .tmp t :: l, K, h => by
    unfold resVal at h
    split at h
    · rename_i x hx
      obtain ⟨xs, us, h1, h2, h3⟩ := resVal_run hE hS l h
      have hg := get_rep hS t
      rw [hx] at hg
      exact ⟨x :: xs, _ :: us, h1, ⟨hg, h2⟩, by rw [List.mapM_cons]; simp [readResult, h3]⟩
    · exact h.elim
  | .cell p t :: l, K, h => by
    unfold resVal at h
    obtain ⟨sv, v, h0, h1, h2⟩ := aload_run hE hS.hp (get_rep hS p) h
    dsimp only at h0
    obtain ⟨xs, us, k1, k2, k3⟩ := resVal_run hE hS l h0
    have h3 := as_of_sure (f := fun a => loadVar t a) h2
    refine ⟨sv :: xs, v :: us, k1, ⟨h1, k2⟩, ?_⟩
    rw [List.mapM_cons]
    have h3 : (readResult a.tmps (.cell p t)).run P w = .ok v w := h3
    simp [h3, k3]
theorem run_results {fn : Func} {tmps : Array Value} {us : List Value} {w : World} (h : (fn.results.toList.mapM (readResult tmps)).run P w = .ok us w) : (results fn tmps).run P w = .ok (retVal us) w := by
  have e : results fn tmps = (do let vs ← fn.results.mapM (readResult tmps); pure (if h : vs.size = 1 then vs[0] else .tuple vs)) := by
    unfold results
    congr 1
  rw [e, Array.mapM_eq_mapM_toList]
  simp [h]
  split
  · rename_i hl
    match us, hl with
    | [u], _ => rfl
  · rename_i hne
    unfold retVal
    split
    · exact (hne rfl).elim
    · rfl
theorem covRes_spec {w : World} {β : Bs} {hp : List Obj} (hH : HRep w β hp) : ∀ {used : List Nat} {l : List TV} {ys : List SV} {us : List Value}, covRes hp used l ys → repL (SV.rep w β hp) ys us →
    ∃ used' labs f, CovR hp used used' labs f ∧ ∀ ok, OkFor w β hp f ok → TV.cons w ok l us (Lab.bs labs β)
  | used, [], [], [], h, _ => ⟨used, [], [], .refl _ _, fun _ _ => rfl⟩
  | used, t :: l, y :: ys, u :: us, h, hr => by
    obtain ⟨u1, l1, f1, h1, h2, h3⟩ := TV.cov_spec hH (t := t) (y := y) h hr.1
    obtain ⟨u2, l2, f2, k2, k3⟩ := covRes_spec hH h1 hr.2
    exact ⟨u2, l1 ++ l2, f1 ++ f2, h2.comp k2, fun ok hok => ⟨_, _, Lab.bs_append _ _ _, h3 ok hok.left, k3 ok hok.right⟩⟩
  | _, [], _ :: _, _, h, _ => h.elim
  | _, _ :: _, [], _, h, _ => h.elim
  | _, [], [], _ :: _, _, hr => hr.elim
  | _, _ :: _, _ :: _, [], _, hr => hr.elim
theorem args_con {w : World} {ok : Nat → Prop} {a : Act} {n m : Nat} : ∀ (args : List TV) (vs : List Value) (j : Nat), TV.cons w ok args vs [] → j + args.length ≤ n → (∀ k u, vs[k]? = some u → a.tmps.getD (j + k) undef = u) → schCons w ok a n (argSt m j args) []
  | [], [], _, _, _, _ => rfl
  | t :: l, u :: us, j, ⟨o1, o2, ho, h1, h2⟩, hn, hv => by
    obtain ⟨rfl, rfl⟩ := List.append_eq_nil_iff.1 ho.symm
    simp at hn
    refine ⟨by omega, [], [], rfl, ?_, args_con l us (j + 1) h2 (by omega) (fun k v hk => ?_)⟩
    · have := hv 0 u rfl
      rw [Nat.add_zero] at this
      rw [this]
      exact h1
    · have := hv (k + 1) v hk
      rw [← this]
      congr 1
      omega
  | [], _ :: _, _, h, _, _ => h.elim
  | _ :: _, [], _, h, _, _ => h.elim
theorem TV.cons_len {w : World} {ok : Nat → Prop} : ∀ {args : List TV} {vs : List Value} {os : List (Option (Nat × Nat))}, TV.cons w ok args vs os → args.length = vs.length
  | [], [], _, _ => rfl
  | _ :: _, _ :: _, _, ⟨_, _, _, _, h⟩ => by simp [TV.cons_len h]
  | [], _ :: _, _, h => h.elim
  | _ :: _, [], _, h => h.elim
theorem spec_of_awp (hE : EnvOk P E) {f : Nat} {fn : Func} {c : Code} (hf : P.funcs[f]? = some fn) (hb : fn.body = some c) (hen : Enters P f) {S : PSpec}
    (hS : ∀ args, (S args).1 → args.length ≤ fn.ntmps ∧ ∃ C : Cfg, (∀ f S, C.spec f = some S → SpecOk P f S) ∧ awp E C c (instAll (argSt 0 0 args) (emptySt fn.ntmps)) (retK E fn.results.toList (S args).2)) : SpecOk P f S := by
  intro args vs w ok hok hcons hs
  obtain ⟨hlen, C, hsp, h⟩ := hS args hs
  refine .inl ⟨hen, calls_of_wp hf hb ?_⟩
  have hvl := TV.cons_len hcons
  let a : Act := { tmps := vs.toArray ++ Array.replicate (fn.ntmps - vs.toArray.size) undef, defers := [] }
  let out : Nat → Prop := fun b => b < w.heap.size ∧ ¬ ok b
  have hsz : a.tmps.size = fn.ntmps := by
    show (vs.toArray ++ Array.replicate (fn.ntmps - vs.toArray.size) undef).size = _
    simp
    omega
  have hsc : schCons w ok a fn.ntmps (argSt 0 0 args) [] := args_con args vs 0 hcons (by omega) fun k u hk => by
    show (vs.toArray ++ Array.replicate (fn.ntmps - vs.toArray.size) undef).getD (0 + k) undef = u
    have hkl : k < vs.length := (List.getElem?_eq_some_iff.1 hk).1
    simp [Array.getD_eq_getD_getElem?, Array.getElem?_append_left, hkl]
    rw [List.getElem?_eq_getElem hkl] at hk
    exact Option.some.inj hk
  obtain ⟨m1, m2, m3⟩ := sch_state (out := out) hsc hsz rfl (fun b hb => ⟨hok b hb, fun h => h.2 hb, fun c hm => by simp at hm⟩) (fun i j g c c' hi => by simp at hi) (fun g c hm => by simp at hm) (fun b hb => hb.1)
  have hinv : Inv w out fn.ntmps w (bof [] out) (instAll (argSt 0 0 args) (emptySt fn.ntmps)) a := ⟨m1, m2, rfl, fun b hb => by obtain ⟨c, hm⟩ := m3 b hb; simp at hm, Below.refl _ _⟩
  refine Code.wp_mono (fun e a' w' q => ?_) (awp_run hE hsp c _ a w _ _ hinv h)
  have fin : ∀ β st, Inv w out fn.ntmps w' β st a' → resVal E st fn.results.toList (covRes st.hp [] (S args).2) →
      a'.defers = [] ∧ ∃ v, (results fn a'.tmps).run P w' = .ok v w' ∧ ∃ u, Ending.returned v = .returned u ∧ ∃ us, u = retVal us ∧ ResRep w ok w' (S args).2 us ∧ Below w.heap.size w w' := by
    intro β st hi hr
    obtain ⟨xs, us, hc, h2, h3⟩ := resVal_run hE hi.rep _ hr
    obtain ⟨used', labs, f', c1, c2⟩ := covRes_spec hi.rep.hp hc h2
    obtain ⟨k1, k2⟩ := c1.okFor hi.rep.hp
    refine ⟨hi.rep.defers, _, run_results h3, _, rfl, us, rfl, ⟨Lab.bs labs β, ?_, k2, fun g c hm => ?_⟩, hi.below⟩
    · have := c2 _ k1
      refine TV.cons_mono (fun b hb => ⟨⟨?_, hb.1, hb.2.2⟩, fun c e fz hc => ⟨fz, hc⟩⟩) _ _ _ (fun _ _ _ => rfl) this
      have ho := hb.2.1
      rw [hi.out] at ho
      by_cases hbw : b < w.heap.size
      · exact .inl (Classical.byContradiction fun hn => ho ⟨hbw, hn⟩)
      · exact .inr (by omega)
    · obtain ⟨id, q1, q2⟩ := Lab.mem_bs hm
      exact hi.mt g ⟨id, c, (c1.mem id (.inl q1)).2.2, q2⟩
  cases e with
  | normal => obtain ⟨β, st, hi, hr⟩ := q; exact fin β st hi hr
  | ret => obtain ⟨β, st, hi, hr⟩ := q; exact fin β st hi hr
  | exit i => obtain ⟨β, st, hi, hr⟩ := q; exact hr.elim
  | _ => exact q.elim
theorem enters_of {f : Nat} {fn : Func} (hf : P.funcs[f]? = some fn) (hn : (fn.name == "runtime.NumGoroutine") = false) (hb : fn.body.isSome = true) : Enters P f := by
  intro args w
  unfold callFunc
  have hb' : ¬ fn.body = none := fun h => by rw [h] at hb; cases hb
  have hn' : ¬ fn.name = "runtime.NumGoroutine" := by simpa using hn
  simp [hf, hn', hb']
/-- **A spec of a function holds if 'awp' says so of its body.** -/
theorem spec_of (hE : EnvOk P E) {f : Nat} {fn : Func} (hf : P.funcs[f]? = some fn) (hn : (fn.name == "runtime.NumGoroutine") = false) {S : PSpec}
    (hS : ∀ args, (S args).1 → args.length ≤ fn.ntmps ∧ ∃ C : Cfg, (∀ f S, C.spec f = some S → SpecOk P f S) ∧ match fn.body with
      | some c => awp E C c (instAll (argSt 0 0 args) (emptySt fn.ntmps)) (retK E fn.results.toList (S args).2)
      | none => False) : SpecOk P f S := by
  intro args vs w ok hok hc hs
  obtain ⟨_, _, _, h⟩ := hS args hs
  cases hb : fn.body with
  | none => rw [hb] at h; exact h.elim
  | some c =>
    refine spec_of_awp hE hf hb (enters_of hf hn (by rw [hb]; rfl)) (fun args hs => ?_) args vs w ok hok hc hs
    obtain ⟨h1, C, h2, h3⟩ := hS args hs
    rw [hb] at h3
    exact ⟨h1, C, h2, h3⟩
end
end Go.AX
