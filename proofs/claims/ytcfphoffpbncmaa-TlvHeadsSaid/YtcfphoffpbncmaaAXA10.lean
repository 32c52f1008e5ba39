/- The abstract executor, part 10: every operation, regions. -/
import Derived.Test.YtcfphoffpbncmaaAXA9N
set_option linter.unusedVariables false
set_option linter.unusedSimpArgs false
namespace Go.AX
open Go.RowKit
section
variable {P : Program} {E : Env} {w : World} {β : Bs} {st : St} {a : Act}
theorem resK_run {hp : List Obj} (hH : HRep w β hp) {w' : World} (hB : Below w.heap.size w w') {res : List TV} {us : List Value} (hr : ResRep w (imm w β hp) w' res us) {K : AV → List Obj → Prop} (h : resK hp K res) :
    ∃ av β' hp', K av hp' ∧ HRep w' β' hp' ∧ Evo w β hp w' β' hp' ∧ av.rep w' β' hp' (retVal us) := by
  obtain ⟨os, hc, ha, hf⟩ := hr
  have hlo := TV.cons_len2 (n := hp.length) hc
  obtain ⟨n2, n3, n1⟩ := hH.news hB (objs := TV.objsL hp.length res) ha hf
  obtain ⟨hi, ho⟩ := TV.insts_rep (hp := hp ++ TV.objsL hp.length res) n3 hc (n := hp.length) (by simp) (fun k hk => hget_append_ge _ _ _) (fun k hk => by
    show (if hp.length + k < hp.length then _ else os.getD (hp.length + k - hp.length) nF) = _
    rw [if_neg (by omega), Nat.add_sub_cancel_left])
  unfold resK at h
  rw [TV.insts_eq] at h
  split at h
  · rename_i x hp' heq
    injection heq with h1 h2
    subst h2
    rw [h1] at hi
    match us, hi with
    | [u], hi => exact ⟨_, _, _, h, n1 ho, n2, hi.1⟩
  · rename_i xs' hp' hne heq
    injection heq with h1 h2
    subst h2
    rw [h1] at hi
    refine ⟨_, _, _, h, n1 ho, n2, us, ?_, hi⟩
    match us, xs', hi with
    | [], _, _ => rfl
    | [u], [x], _ => exact (hne x rfl).elim
    | _ :: _ :: _, _, _ => rfl
theorem TV.cons_append {A : Acc} : ∀ {ts : List TV} {us : List Value} {ms : List TV} {mv : List Value}, TV.cons w A ts us [] → TV.cons w A ms mv [] → TV.cons w A (ts ++ ms) (us ++ mv) []
  | [], [], _, _, _, h => h
  | t :: ts, u :: us, _, _, ⟨o1, o2, ho, h1, h2⟩, h => by
    obtain ⟨rfl, rfl⟩ := List.append_eq_nil_iff.1 ho.symm
    exact ⟨[], [], rfl, h1, TV.cons_append h2 h⟩
  | [], _ :: _, _, _, h, _ => h.elim
  | _ :: _, [], _, _, h, _ => h.elim
/-- A call by a spec. -/
theorem acall_run {spec : Nat → Option PSpec} (hsp : ∀ f S, spec f = some S → SpecOk P f S) (hS : SRep w β st a) {f : Nat} {l : List Operand} {more : List TV} {mv : List Value} (hm : TV.cons w (accOf w β st.hp) more mv []) {K : AV → List Obj → Prop} (h : acall (spec f) st l more K) :
    CallP P f (l.map a.eval ++ mv).toArray w fun v w' => ∃ av β' hp', K av hp' ∧ HRep w' β' hp' ∧ Evo w β st.hp w' β' hp' ∧ av.rep w' β' hp' v := by
  unfold acall at h
  split at h
  · rename_i S hS'
    obtain ⟨ts, hp', k1, k2, k3, k4⟩ := acargs_run hS l st.hp hS.hp (Evo.refl _ _ _) h
    have := hsp f S hS' (ts ++ more) (l.map a.eval ++ mv) w (accOf w β hp') (fun b hb => imm_nomut hb) (fun b hb => hb.1) (TV.cons_append k4 (TV.cons_mono k3.astays _ _ _ (fun _ h => h.nil.elim) hm)) k1.1
    have fin : ∀ v w', (∃ us, v = retVal us ∧ ResRep w (imm w β hp') w' (S (ts ++ more)).2 us ∧ Below w.heap.size w w') → ∃ av β' hp', K av hp' ∧ HRep w' β' hp' ∧ Evo w β st.hp w' β' hp' ∧ av.rep w' β' hp' v := by
      rintro v w' ⟨us, rfl, hR, hB⟩
      obtain ⟨av, β', hp'', m1, m2, m3, m4⟩ := resK_run k2 hB hR k1.2
      exact ⟨av, β', hp'', m1, m2, k3.trans m3, m4⟩
    rcases this with ⟨h1, h2⟩ | ⟨v, w', h1, h2⟩
    · exact .inl ⟨h1, h2.mono fun e w' ⟨v, he, hT⟩ => ⟨v, he, fin v w' hT⟩⟩
    · exact .inr ⟨v, w', h1, fin v w' h2⟩
  · exact h.elim

theorem arr0 {α : Type} {x : Array α} (h : x.toList = []) : x = #[] := by rw [← Array.toArray_toList (xs := x), h]
theorem arr1 {α : Type} {x : Array α} {y : α} (h : x.toList = [y]) : x = #[y] := by rw [← Array.toArray_toList (xs := x), h]
theorem arr2 {α : Type} {x : Array α} {y z : α} (h : x.toList = [y, z]) : x = #[y, z] := by rw [← Array.toArray_toList (xs := x), h]
set_option maxHeartbeats 1000000 in
/-- **Every operation does what the executor says.** -/
theorem aop_run (hE : EnvOk P E) {spec : Sp} (hsp : SpsOk P spec) (hS : SRep w β st a) {o : Oper} {K : AV → List Obj → Prop} {N : Act → World → Prop} {Q : Exit → Act → World → Prop}
    (h : aop E spec o.op st K) (next : ∀ v av w' β' hp', K av hp' → HRep w' β' hp' → Evo w β st.hp w' β' hp' → av.rep w' β' hp' v → N (a.put o.dst v) w') : o.wp P a w N Q := by
  obtain ⟨dst, op, ty, pos, after, guard⟩ := o
  cases op with
  | move x => exact wp_val rfl (next _ _ _ _ _ h hS.hp (Evo.refl _ _ _) (ev_rep hS x))
  | assign x => exact wp_val rfl (next _ _ _ _ _ h hS.hp (Evo.refl _ _ _) (ev_rep hS x))
  | pick c x y =>
    simp only [aop] at h
    split at h
    · rename_i t hev
      have hc := ev_v hS hev
      cases t with
      | true => exact wp_val (by simp [execOp, hc, asBool]) (next _ _ _ _ _ (h.1 rfl) hS.hp (Evo.refl _ _ _) (ev_rep hS x))
      | false => exact wp_val (by simp [execOp, hc, asBool]) (next _ _ _ _ _ (h.2 rfl) hS.hp (Evo.refl _ _ _) (ev_rep hS y))
    · exact h.elim
  | binOp op t x y yt =>
    simp only [aop] at h
    split at h
    · rename_i ca cb hx hy
      split at h
      · rename_i va vb _
        have h1 := ev_v hS hx
        have h2 := ev_v hS hy
        obtain ⟨r, k1, k2, k3⟩ := binV_run hE (w := w) (x := x) (y := y) h
        refine wp_val (u := r) (w' := w) ?_ (next r _ _ _ _ k1 hS.hp (Evo.refl _ _ _) ⟨rfl, k2⟩)
        unfold execOp
        exact run_v (by rw [h1, h2]; exact k3)
      · obtain ⟨r, v, k1, k2, k3⟩ := binE_run hE hS.hp (x := x) (y := y) (ev_cv hS hx) (ev_cv hS hy) h
        exact wp_val (by unfold execOp; exact run_v k3) (next _ _ _ _ _ k1 hS.hp (Evo.refl _ _ _) k2)
    · exact h.elim
  | unOp op t x =>
    cases op with
    | not =>
      simp only [aop] at h
      split at h
      · rename_i b hx
        have h1 := ev_v hS hx
        refine wp_val (u := .bool !b) (w' := w) ?_ (next _ _ _ _ _ h hS.hp (Evo.refl _ _ _) ⟨rfl, rfl⟩)
        unfold execOp
        exact run_v (by rw [h1]; rfl)
      · exact h.elim
    | neg => exact False.elim h
    | plus => exact False.elim h
    | xor => exact False.elim h
  | indexAddr t x i =>
    simp only [aop] at h
    split at h
    · rename_i e r0 bytes e' r xs k n ht hx hi
      obtain ⟨hu, inf, z, hinf, hsz, _⟩ := hE.slice t _ _ _ ht
      split at h
      · rename_i hrs
        have hi' := ev_v hS hi
        obtain ⟨A, c, hv, hlc, hxs⟩ := ev_cv hS hx
        rcases hxs with rfl | ⟨b, o, rfl, hrow⟩
        · exact absurd h.1.2 (by simp; omega)
        · refine wp_val (u := .pointer (some ⟨b, o + n.toNat * inf.size, none⟩)) (w' := w) ?_ (next _ _ _ _ _ h.2 hS.hp (Evo.refl _ _ _) ⟨h.1, b, o, by rw [hsz, ← hrs]; rfl, hrow.mono (Stays.sub fun b hb => imm_nomut hb) (Stays.sub fun b hb => hb)⟩)
          unfold execOp
          refine run_v ?_
          rw [hv, hi']
          unfold Instr.indexAt
          simp [asIntOf, run_underlying hu, h.1.1, h.1.2, run_sizeOf hinf, Addr.add_lit]
      · exact h.elim
    · rename_i e r0 bytes id k n ht hx hi
      obtain ⟨hu, inf, z, hinf, hsz, _⟩ := hE.slice t _ _ _ ht
      have hi' := ev_v hS hi
      have hcv := ev_cv hS hx
      split at h
      · rename_i e' r xs hg
        split at h
        · rename_i hrs
          obtain ⟨hv, hro⟩ := own_row hS.hp hcv hg
          rcases hro with ⟨_, rfl⟩ | ⟨g, cap, cells, h0, _⟩
          · exact absurd h.1.2 (by simp; omega)
          · refine wp_val (u := .pointer (some ⟨g, n.toNat * inf.size, none⟩)) (w' := w) ?_ (next _ _ _ _ _ h.2 hS.hp (Evo.refl _ _ _) ⟨hcv.1, by rw [hg]; exact ⟨h.1, g, cap, h0, by rw [hsz, ← hrs]; rfl⟩⟩)
            unfold execOp
            refine run_v ?_
            rw [hv, hi', h0]
            unfold Instr.indexAt
            simp [asIntOf, ownVal, run_underlying hu, h.1.1, h.1.2, run_sizeOf hinf, Addr.add_lit]
        · exact h.elim
      · rename_i e' r xs hg
        split at h
        · rename_i hrs
          have := hcv.2
          rw [hg] at this
          obtain ⟨A, c, hv, hlc, hxs⟩ := this
          rcases hxs with rfl | ⟨b, o, rfl, hrow⟩
          · exact absurd h.1.2 (by simp; omega)
          · refine wp_val (u := .pointer (some ⟨b, o + n.toNat * inf.size, none⟩)) (w' := w) ?_ (next _ _ _ _ _ h.2 hS.hp (Evo.refl _ _ _) ⟨h.1, b, o, by rw [hsz, ← hrs]; rfl, hrow.mono (Stays.sub fun b hb => imm_nomut hb) (Stays.sub fun b hb => hb)⟩)
            unfold execOp
            refine run_v ?_
            rw [hv, hi']
            unfold Instr.indexAt
            simp [asIntOf, run_underlying hu, h.1.1, h.1.2, run_sizeOf hinf, Addr.add_lit]
        · exact h.elim
      · rename_i e' pk eb r xs ov hg
        split at h
        · rename_i hrs
          have hv := hcv.2
          rw [hg] at hv
          have hv : a.eval x = ownVal (β.f id 0) xs.length := hv
          have hO := hS.hp.obj id hcv.1
          unfold ObjRep at hO
          rw [hg] at hO
          obtain ⟨g, cap, cells, h0, _⟩ := hO
          refine wp_val (u := .pointer (some ⟨g, n.toNat * inf.size, none⟩)) (w' := w) ?_ (next _ _ _ _ _ h.2 hS.hp (Evo.refl _ _ _) ⟨hcv.1, by rw [hg]; exact ⟨h.1, g, cap, h0, by rw [hsz, ← hrs]; rfl⟩⟩)
          unfold execOp
          refine run_v ?_
          rw [hv, hi', h0]
          unfold Instr.indexAt
          simp [asIntOf, ownVal, run_underlying hu, h.1.1, h.1.2, run_sizeOf hinf, Addr.add_lit]
        · exact h.elim
      · exact h.elim
    · rename_i e r0 bytes r xs k n ht hx hi
      obtain ⟨hu, inf, z, hinf, hsz, _⟩ := hE.slice t _ _ _ ht
      split at h
      · rename_i hrs
        have hi' := ev_v hS hi
        obtain ⟨A, c, hv, hlc, hxs⟩ := ev_cv hS hx
        rcases hxs with rfl | ⟨b, o, rfl, hrow⟩
        · exact absurd h.1.2 (by simp; omega)
        · refine wp_val (u := .pointer (some ⟨b, o + n.toNat * inf.size, none⟩)) (w' := w) ?_ (next _ _ _ _ _ h.2 hS.hp (Evo.refl _ _ _) ⟨h.1, b, o, by rw [hsz, ← hrs]; rfl, hrow⟩)
          unfold execOp
          refine run_v ?_
          rw [hv, hi']
          unfold Instr.indexAt
          simp [asIntOf, run_underlying hu, h.1.1, h.1.2, run_sizeOf hinf, Addr.add_lit]
      · exact h.elim
    · exact h.elim
  | load t p =>
    obtain ⟨av, v, β', hp', k1, k2, k3, k4, k5⟩ := aload_run hE hS.hp (ev_rep hS p) h
    exact wp_val (by unfold execOp; exact run_v k5) (next _ _ _ _ _ k1 k2 k3 k4)
  | store t p x =>
    obtain ⟨hp', w', k1, k2, k3, k4⟩ := astore_run hE hS.hp (ev_rep hS p) (ev_rep hS x) h
    exact wp_skp (by unfold execOp; exact run_u k4) (next _ _ _ _ _ k1 k2 k3 trivial)
  | alloc t =>
    simp only [aop] at h
    split at h
    · rename_i z hz
      obtain ⟨i, zv, hi, hzv, hzc, hone⟩ := hE.zero t z hz
      obtain ⟨e1, e2⟩ := hS.hp.new (w' := w.alloc (.cells zv.cells t)) (.box t (z.map CV.v)) (some (w.heap.size, 0)) rfl rfl rfl (by simp) (fun b hb => alloc_old w _ b hb) (fun g c hg => by injection hg with hg; injection hg with hg hg'; omega)
      refine wp_val (u := .pointer (some ⟨w.heap.size, 0, none⟩)) (w' := w.alloc (.cells zv.cells t)) ?_ (next _ _ _ _ _ h (e2 ?_) e1 ⟨by simp, ?_⟩)
      · unfold execOp
        refine run_v ?_
        simp [Instr.alloc, run_zeroValue hi hzv, newVar, newRow]
      · unfold ObjRep
        rw [hget_append_new, bnew_at]
        refine ⟨_, _, zv.cells, rfl, alloc_at w _, by rw [hzc]; exact repL_consts z hone _, fun u hu => ?_⟩
        rw [hzc] at hu
        exact List.all_eq_true.1 hone u hu
      · rw [hget_append_new, bnew_at]
        exact ⟨_, _, rfl, rfl⟩
    · exact h.elim
  | box t x =>
    simp only [aop] at h
    split at h
    · rename_i sv hev
      split at h
      · rename_i hs
        have hx := ev_rep hS x
        rw [hev] at hx
        obtain ⟨c1, c2, c3⟩ := sv_cells hx hs
        obtain ⟨e1, e2⟩ := hS.hp.new (w' := w.alloc (.cells (a.eval x).cells t)) (.box t sv.list) (some (w.heap.size, 0)) rfl rfl rfl (by simp) (fun b hb => alloc_old w _ b hb) (fun g c hg => by injection hg with hg; injection hg with hg hg'; omega)
        refine wp_val (u := .pointer (some ⟨w.heap.size, 0, none⟩)) (w' := w.alloc (.cells (a.eval x).cells t)) ?_ (next _ _ _ _ _ h (e2 ?_) e1 ⟨by simp, ?_⟩)
        · unfold execOp
          refine run_v ?_
          simp [Instr.box, newVar, newRow]
        · unfold ObjRep
          rw [hget_append_new, bnew_at]
          exact ⟨_, _, _, rfl, alloc_at w _, e1.cvs c1, c3⟩
        · rw [hget_append_new, bnew_at]
          exact ⟨_, _, rfl, rfl⟩
      · exact h.elim
    · exact h.elim
  | fieldAddr t p f =>
    simp only [aop] at h
    have key : ∀ {o : Nat} {agg : Bool} {n : Nat}, E.fld t f = some (o, agg, n) → ∀ (b q : Nat), a.eval p = .pointer (some ⟨b, q, none⟩) → (execOp a.eval { dst := dst, op := .fieldAddr t p f, type := ty, pos := pos, after := after, guard := guard }).run P w = .ok (.value (.pointer (some ⟨b, q + o, none⟩))) w := by
      intro o agg n hf b q hv
      obtain ⟨fs, fd, d, i, hu, hfd, ho, _, _, hi, hsz, hn⟩ := hE.fld t f o agg n hf
      unfold execOp
      refine run_v ?_
      unfold Instr.fieldAt
      simp only [Sem.run_bind, run_underlying hu, Result.andThen_ok, hv]
      simp only [hfd]
      simp only [Instr.sureAddr, fieldPlace, Sem.run_bind, Sem.run_pure, Result.andThen_ok, run_sizeOf hi, hsz]
      rw [if_neg (by omega)]
      simp [Addr.add_lit, ho]
    split at h
    · rename_i o agg n id off hf hev
      have hcv := ev_cv hS hev
      have h2 := hcv.2
      split at h
      · rename_i hg
        rw [hg] at h2
        obtain ⟨g, c, hb, hv⟩ := h2
        exact wp_val (key hf _ _ hv) (next _ _ _ _ _ h hS.hp (Evo.refl _ _ _) ⟨hcv.1, by rw [hg]; exact ⟨g, c, hb, rfl⟩⟩)
      · exact h.elim
    · rename_i o agg n r xs i off hf hev
      obtain ⟨hi, b, q, hv, hrow⟩ := ev_cv hS hev
      exact wp_val (key hf _ _ hv) (next _ _ _ _ _ h hS.hp (Evo.refl _ _ _) ⟨hi, b, q, by rw [Nat.add_assoc], hrow⟩)
    · rename_i o agg n id i off hf hev
      have hcv := ev_cv hS hev
      have h2 := hcv.2
      split at h
      · rename_i hg
        rw [hg] at h2
        obtain ⟨hi, g, c, hb, hv⟩ := h2
        exact wp_val (key hf _ _ hv) (next _ _ _ _ _ h hS.hp (Evo.refl _ _ _) ⟨hcv.1, by rw [hg]; exact ⟨hi, g, c, hb, by rw [Nat.add_assoc]⟩⟩)
      · rename_i hg
        rw [hg] at h2
        obtain ⟨hi, g, c, hb, hv⟩ := h2
        exact wp_val (key hf _ _ hv) (next _ _ _ _ _ h hS.hp (Evo.refl _ _ _) ⟨hcv.1, by rw [hg]; exact ⟨hi, g, c, hb, by rw [Nat.add_assoc]⟩⟩)
      · exact h.elim
    · exact h.elim
  | field t x f =>
    simp only [aop] at h
    split at h
    · rename_i o agg n cs hf hev
      obtain ⟨fs, fd, d, i, hu, hfd, ho, hd, hagg, hi, hsz, hn⟩ := hE.fld t f o agg n hf
      split at h
      · rename_i hon
        have hx := ev_rep hS x
        rw [hev] at hx
        obtain ⟨l, hv, hl⟩ := hx
        have hlen := repL.len _ _ hl
        rcases mkSV_spec h with ⟨rfl, hK⟩ | ⟨rfl, y, hy, hK⟩
        · refine wp_val (u := .agg ((l.drop o).take n).toArray) (w' := w) ?_ (next _ _ _ _ _ hK hS.hp (Evo.refl _ _ _) ⟨_, rfl, repL.take _ _ _ (repL.drop _ _ _ hl)⟩)
          unfold execOp
          refine run_v ?_
          rw [hv]
          unfold Instr.field
          simp only [Sem.run_bind, run_underlying hu, Result.andThen_ok, hfd, asAgg, Sem.run_pure, run_part_agg hd hagg hi]
          subst ho hsz
          congr 2
          apply Array.ext'
          simp [List.extract_eq_take_drop]
        · have hr := repL.take n _ _ (repL.drop o _ _ hl)
          rw [hy] at hr
          obtain ⟨u, hq, hru⟩ : ∃ u, (l.drop o).take n = [u] ∧ y.rep w β st.hp u := by
            revert hr
            generalize (l.drop o).take n = m
            intro hr
            match m, hr with
            | [u], hr => exact ⟨u, rfl, hr.1⟩
          refine wp_val (u := u) (w' := w) ?_ (next _ _ _ _ _ hK hS.hp (Evo.refl _ _ _) hru)
          unfold execOp
          refine run_v ?_
          rw [hv]
          unfold Instr.field
          have h0 : l.toArray[o]? = some u := by
            have h1 : ((l.drop o).take n)[0]? = some u := by rw [hq]; rfl
            rw [List.getElem?_take, if_pos hn, List.getElem?_drop] at h1
            simpa using h1
          simp only [Sem.run_bind, run_underlying hu, Result.andThen_ok, hfd, asAgg, Sem.run_pure]
          subst ho
          exact run_part_one hd hagg h0
      · exact h.elim
    · exact h.elim
  | nilCheck x =>
    simp only [aop] at h
    split at h
    · rename_i id off hev
      have hcv := ev_cv hS hev
      have h2 := hcv.2
      split at h
      · rename_i hg
        rw [hg] at h2
        obtain ⟨g, c, hb, hv⟩ := h2
        exact wp_val (u := .pointer (some ⟨g, off, none⟩)) (by unfold execOp; simp only [hv]; rfl) (next _ _ _ _ _ h hS.hp (Evo.refl _ _ _) ⟨hcv.1, by rw [hg]; exact ⟨g, c, hb, rfl⟩⟩)
      · exact h.elim
    · rename_i id i off hev
      have hcv := ev_cv hS hev
      have h2 := hcv.2
      split at h
      · rename_i hg
        rw [hg] at h2
        obtain ⟨hi, g, c, hb, hv⟩ := h2
        exact wp_val (u := a.eval x) (by unfold execOp; simp only [hv]; rfl) (next _ _ _ _ _ h hS.hp (Evo.refl _ _ _) hcv)
      · rename_i hg
        rw [hg] at h2
        obtain ⟨hi, g, c, hb, hv⟩ := h2
        exact wp_val (u := a.eval x) (by unfold execOp; simp only [hv]; rfl) (next _ _ _ _ _ h hS.hp (Evo.refl _ _ _) hcv)
      · exact h.elim
    · rename_i r xs i off hev
      have hcv := ev_cv hS hev
      obtain ⟨h0, b, o, hv, hrow⟩ := hcv
      exact wp_val (u := a.eval x) (by unfold execOp; simp only [hv]; rfl) (next _ _ _ _ _ h hS.hp (Evo.refl _ _ _) (ev_cv hS hev))
    · exact h.elim
  | build t parts =>
    simp only [aop] at h
    split at h
    · rename_i z pl hz hp
      obtain ⟨cs, v, k1, k2, k3⟩ := build_run hE hS hz hp h
      exact wp_val (by unfold execOp; exact run_v k3) (next _ _ _ _ _ k1 hS.hp (Evo.refl _ _ _) k2)
    · exact h.elim
  | buildSlice t len parts =>
    simp only [aop] at h
    split at h
    · rename_i pk eb r hn
      split at h
      · rename_i e r0 bytes ht
        obtain ⟨v, av, w', β', hp', k1, k2, k3, k4, k5⟩ := nbuild_run hE hS hn ht h
        exact wp_val (by unfold execOp; exact run_v k5) (next _ _ _ _ _ k1 k2 k3 k4)
      · exact h.elim
    · split at h
      · rename_i e r bytes ht
        obtain ⟨v, av, w', β', hp', k1, k2, k3, k4, k5⟩ := buildSlice_run hE hS ht h
        exact wp_val (by unfold execOp; exact run_v k5) (next _ _ _ _ _ k1 k2 k3 k4)
      · exact h.elim
  | makeSlice t lo ca =>
    simp only [aop] at h
    split at h
    · rename_i e r bytes n m ht h1 h2
      obtain ⟨hb, h⟩ := h
      obtain ⟨v, av, w', β', hp', k1, k2, k3, k4, k5⟩ := make_run hE hS.hp ht hb h
      exact wp_val (by unfold execOp; exact run_v (by rw [ev_v hS h1, ev_v hS h2]; exact k5)) (next _ _ _ _ _ k1 k2 k3 k4)
    · exact h.elim
  | slice t x lo hi mx =>
    cases mx with
    | some m => exact False.elim h
    | none =>
      simp only [aop] at h
      split at h
      · rename_i e r bytes ht hev
        have hv := ev_v hS hev
        obtain ⟨u, av, hp', k1, k2, k3, k4, k5⟩ := acut_run hE hS ht (y := .sl e r []) (v := a.eval x) (by rw [hv]; exact ⟨none, 0, rfl, Nat.le_refl _, .inl rfl⟩) ⟨fun e' r' xs h => by injection h with h1 h2; rw [← h2], fun r' xs h => by injection h⟩ h
        exact wp_val (by unfold execOp; exact run_v k5) (next _ _ _ _ _ k1 k2 k3 k4)
      · rename_i e r0 bytes y hne ht hev
        split at h
        · rename_i id ho
          split at h
          · rename_i hrs
            have hy : y = .own id := by
              unfold isOwn at ho
              split at ho
              · split at ho
                · injection ho with ho; rw [ho]
                · injection ho with ho; rw [ho]
                · cases ho
              · cases ho
            subst hy
            obtain ⟨u, av, β', hp', k1, k2, k3, k4, k5⟩ := acutOwn_run hE hS ht (ev_cv hS hev) hrs h
            exact wp_val (by unfold execOp; exact run_v k5) (next _ _ _ _ _ k1 k2 k3 k4)
          · exact h.elim
        · split at h
          · rename_i e' r xs hs
            split at h
            · rename_i hrs
              have hs1 : ∀ e1 r1 (xs1 : List r1.den), (froz st.hp y).1 = .sl e1 r1 xs1 → r1.size = r0.size := fun e1 r1 xs1 h1 => by
                unfold froz at h1
                unfold sliceOf at hs
                cases y <;> simp only at h1 hs <;> try cases hs
                · injection h1 with h2 h3
                  rw [← h3]
                  exact hrs
                · revert h1 hs
                  cases hget st.hp _ <;> intro h1 hs <;> simp only at h1 hs <;> try cases hs
                  all_goals (cases h1; exact hrs)
                · cases h1
              have hs2 : ∀ r1 (xs1 : List r1.den), (froz st.hp y).1 = .bs r1 xs1 → r1.size = r0.size := fun r1 xs1 h1 => by
                unfold froz at h1
                unfold sliceOf at hs
                cases y <;> simp only at h1 hs <;> try cases hs
                · cases h1
                · revert h1 hs
                  cases hget st.hp _ <;> intro h1 hs <;> simp only at h1 hs <;> try cases hs
                  all_goals cases h1
                · cases h1
                  exact hrs
              obtain ⟨u, av, hp', k1, k2, k3, k4, k5⟩ := acut_run hE hS ht (ev_cv hS hev) ⟨hs1, hs2⟩ h
              exact wp_val (by unfold execOp; exact run_v k5) (next _ _ _ _ _ k1 k2 k3 k4)
            · exact h.elim
          · exact h.elim
      · exact h.elim
  | convert s d x =>
    simp only [aop] at h
    have hc := hE.conv s d
    split at h
    · rename_i k k' n hk hev
      rw [hk] at hc
      obtain ⟨⟨k0, hs⟩, hd⟩ := hc
      refine wp_val (u := .int k (k.wrap n)) (w' := w) ?_ (next _ _ _ _ _ h hS.hp (Evo.refl _ _ _) ⟨rfl, rfl⟩)
      unfold execOp
      refine run_v ?_
      rw [ev_v hS hev]
      simp [convert, run_underlying hs, run_underlying hd, Conv.intToInt]
    · rename_i str hk hev
      rw [hk] at hc
      refine wp_val (u := .string str) (w' := w) ?_ (next _ _ _ _ _ h hS.hp (Evo.refl _ _ _) ⟨rfl, rfl⟩)
      unfold execOp
      refine run_v ?_
      rw [ev_v hS hev]
      simp [convert, run_underlying hc.1, run_underlying hc.2]
    · rename_i hk hev
      rw [hk] at hc
      obtain ⟨e, h1, h2, h3⟩ := hc
      refine wp_val (u := .string (strOfNums [])) (w' := w) ?_ (next _ _ _ _ _ h hS.hp (Evo.refl _ _ _) ⟨rfl, rfl⟩)
      unfold execOp
      refine run_v ?_
      rw [ev_v hS hev]
      exact strOf_run (ok := fun _ => True) h1 h2 h3 ⟨none, 0, rfl, Nat.le_refl _, .inl rfl⟩
    · rename_i y hne hk hev
      rw [hk] at hc
      obtain ⟨e, h1, h2, h3⟩ := hc
      split at h
      · rename_i xs hs
        refine wp_val (u := .string (strOfNums xs)) (w' := w) ?_ (next _ _ _ _ _ h hS.hp (Evo.refl _ _ _) ⟨rfl, rfl⟩)
        unfold execOp
        refine run_v ?_
        exact strOf_run h1 h2 h3 (sliceOf_rd hS.hp (ev_cv hS hev) hs)
      · exact h.elim
    · rename_i id hk hev
      rw [hk] at hc
      obtain ⟨rfl, e, h1, h2⟩ := hc
      split at h
      · rename_i e' r y ys hg
        obtain ⟨w', k1, k2, k3, k4⟩ := mark_run h1 h2 hS.hp (ev_cv hS hev) hg (by simp)
        exact wp_val (by unfold execOp; exact run_v k1) (next _ _ _ _ _ h k2 k3 k4)
      · exact h.elim
    · exact h.elim
  | makeInterface t x =>
    simp only [aop] at h
    split at h
    · rename_i y hev
      split at h
      · rename_i hc
        refine wp_val (u := .iface t y) (w' := w) ?_ (next _ _ _ _ _ h hS.hp (Evo.refl _ _ _) ⟨rfl, rfl⟩)
        unfold execOp
        refine run_v ?_
        rw [ev_v hS hev]
        exact run_makeInterface w t y (hE.conc t hc)
      · exact h.elim
    · exact h.elim
  | index t x i =>
    simp only [aop] at h
    split at h
    · rename_i str k n hx hi
      split at h
      · rename_i hs
        refine wp_val (u := .int .u8 (byteAt str n)) (w' := w) ?_ (next _ _ _ _ _ h.2 hS.hp (Evo.refl _ _ _) ⟨rfl, rfl⟩)
        unfold execOp
        refine run_v ?_
        rw [ev_v hS hx, ev_v hS hi]
        unfold Instr.index
        have hlt : n.toNat < str.size := by have := h.1; omega
        have hlt' : n.toNat < str.data.size := hlt
        have : str[n.toNat]? = some (str.data.toList.getD n.toNat 0) := by
          rw [getElem?_pos str n.toNat hlt, List.getD_eq_getElem?_getD, Array.getElem?_toList, Array.getElem?_eq_getElem hlt']
          rfl
        simp only [Sem.run_bind, asIntOf, Sem.run_pure, Result.andThen_ok, run_underlying (hE.str t hs), h.1.1, if_true, this]
        rfl
      · exact h.elim
    · exact h.elim
  | extract x i =>
    simp only [aop] at h
    split at h
    · rename_i xs hev
      split at h
      · rename_i y hy
        have hx := ev_rep hS x
        rw [hev] at hx
        obtain ⟨l, hv, hl⟩ := hx
        obtain ⟨u, hu, hr⟩ := repL.get _ _ hl i y hy
        refine wp_val (u := u) (w' := w) ?_ (next _ _ _ _ _ h hS.hp (Evo.refl _ _ _) hr)
        unfold execOp
        refine run_v ?_
        rw [hv]
        simp [Instr.extract, hu]
      · exact h.elim
    · exact h.elim
  | call c =>
    obtain ⟨callee, args, argTypes⟩ := c
    simp only [aop] at h
    split at h
    · split at h
      · rename_i x t hx ht
        obtain ⟨n, k1, k2⟩ := alen_run (ty := ty) hE hS.hp (ev_rep hS x) h
        refine wp_val (u := .int .i64 n) (w' := w) ?_ (next _ _ _ _ _ k1 hS.hp (Evo.refl _ _ _) ⟨rfl, rfl⟩)
        unfold execOp
        simp only [resolve, Sem.run_bind, Sem.run_pure, Result.andThen_ok, invoke, builtin, arr1 hx, arr1 ht]
        simp [k2]
      · exact h.elim
    · split at h
      · rename_i x y t u hx ht
        split at h
        · rename_i htu
          subst htu
          obtain ⟨v, av, w', β', hp', k1, k2, k3, k4, k5⟩ : ∃ v av w' β' hp', K av hp' ∧ HRep w' β' hp' ∧ Evo w β st.hp w' β' hp' ∧ av.rep w' β' hp' v ∧ (Builtin.append_ #[t, t] ty #[a.eval x, a.eval y]).run P w = .ok v w' := by
            split at h
            · rename_i ca cb _ h1 h2
              exact anappend_run (ty := ty) hE hS.hp (ev_cv hS h1) (ev_cv hS h2) h
            · exact aappend_run (ty := ty) hE hS.hp (ev_rep hS x) (ev_rep hS y) h
          refine wp_val ?_ (next _ _ _ _ _ k1 k2 k3 k4)
          unfold execOp
          simp only [resolve, Sem.run_bind, Sem.run_pure, Result.andThen_ok, invoke, builtin, arr2 hx, arr2 ht]
          simp [k5]
        · exact h.elim
      · exact h.elim
    · rename_i f
      split at h
      · rename_i g first cap hev
        split at h
        · rename_i hc
          have hfirst : first = #[] := Array.eq_empty_of_size_eq_zero hc.1
          have hcap : cap = #[] := Array.eq_empty_of_size_eq_zero hc.2
          subst hfirst hcap
          have hv := ev_v hS hev
          have hrun : (execOp a.eval { dst := dst, op := .call { callee := .value f, args := args, argTypes := argTypes }, type := ty, pos := pos, after := after, guard := guard }).run P w = (callFunc g (args.toList.map a.eval).toArray).run P w := by
            unfold execOp
            simp only [resolve, Sem.run_bind, hv, Deferred.ofValue, Sem.run_pure, Result.andThen_ok, invoke]
            have e : (#[] : Array Value) ++ Array.map a.eval args ++ #[] = (args.toList.map a.eval).toArray := by apply Array.ext'; simp
            rw [e]
          unfold Oper.wp
          rw [hrun]
          have hac : CallP P g (args.toList.map a.eval).toArray w fun v w' => ∃ av β' hp', K av hp' ∧ HRep w' β' hp' ∧ Evo w β st.hp w' β' hp' ∧ av.rep w' β' hp' v := by
            split at h
            · rename_i I hI
              exact icall_run hS (hsp.i g I hI) h
            · have := acall_run (more := []) (mv := []) hsp.p hS (by exact rfl) h
              rwa [List.append_nil] at this
          rcases hac with ⟨h1, h2⟩ | ⟨v, w', h1, av, β', hp', m1, m2, m3, m4⟩
          · rw [h1]
            refine h2.mono fun e w' ⟨v, he, av, β', hp', m1, m2, m3, m4⟩ => ?_
            subst he
            exact next _ _ _ _ _ m1 m2 m3 m4
          · rw [h1]
            exact next _ _ _ _ _ m1 m2 m3 m4
        · exact h.elim
      · rename_i g r x hev
        have hcv := ev_cv hS hev
        obtain ⟨b, o, hv, hrow⟩ := hcv
        have hrun : (execOp a.eval { dst := dst, op := .call { callee := .value f, args := args, argTypes := argTypes }, type := ty, pos := pos, after := after, guard := guard }).run P w = (callFunc g (args.toList.map a.eval ++ [Value.pointer (some ⟨b, o, none⟩)]).toArray).run P w := by
          unfold execOp
          simp only [resolve, Sem.run_bind, hv, Deferred.ofValue, Sem.run_pure, Result.andThen_ok, invoke]
          have e : (#[] : Array Value) ++ Array.map a.eval args ++ #[Value.pointer (some ⟨b, o, none⟩)] = (args.toList.map a.eval ++ [Value.pointer (some ⟨b, o, none⟩)]).toArray := by apply Array.ext'; simp
          rw [e]
        unfold Oper.wp
        rw [hrun]
        have hm : TV.cons w (accOf w β st.hp) [.c (.rptr r [x] 0 0)] [Value.pointer (some ⟨b, o, none⟩)] [] := ⟨[], [], rfl, ⟨⟨⟨by omega, by simp⟩, b, o, by simp, hrow⟩, rfl⟩, rfl⟩
        rcases acall_run hsp.p hS hm h with ⟨h1, h2⟩ | ⟨v, w', h1, av, β', hp', m1, m2, m3, m4⟩
        · rw [h1]
          refine h2.mono fun e w' ⟨v, he, av, β', hp', m1, m2, m3, m4⟩ => ?_
          subst he
          exact next _ _ _ _ _ m1 m2 m3 m4
        · rw [h1]
          exact next _ _ _ _ _ m1 m2 m3 m4
      · exact h.elim
    · exact h.elim
  | makeFunc fn first cap =>
    cases fn with
    | func f =>
      simp only [aop] at h
      split at h
      · rename_i x hf hc
        split at h
        · rename_i id hev
          split at h
          · rename_i e cs hg
            split at h
            · rename_i r hr
              split at h
              · rename_i y hy
                have hcv := ev_cv hS hev
                have h6 := hcv.2
                rw [hg] at h6
                obtain ⟨g, c, hb, hv⟩ := h6
                have h5 := hS.hp.obj id hcv.1
                unfold ObjRep at h5
                rw [hg] at h5
                obtain ⟨g', c', cells, hb', hcell, hcs, _⟩ := h5
                rw [hb] at hb'
                injection hb' with hb'
                injection hb' with e1 e2
                subst e1
                have hrep := r.ofCvs_rep _ _ _ hy hcs
                have hlen := r.rep_len _ _ hrep
                obtain ⟨k1, k2⟩ := hS.hp.kill hcv.1 (fun e cs h => by rw [hg] at h; cases h)
                refine wp_val (u := .func (.func f) #[] #[.pointer (some ⟨g, 0, none⟩)]) (w' := w) ?_ (next _ _ _ _ _ h k2 k1 ⟨g, 0, rfl, ⟨(Array.getElem?_eq_some_iff.1 hcell).1, ?_⟩, cells, _, _, hcell, fun i x hi => ?_⟩)
                · rw [arr0 hf, arr1 hc]
                  unfold execOp Instr.makeFunc
                  simp [hv]
                · rintro ⟨j, jj, c2, hl, hbj⟩
                  have hne : j ≠ id := fun e => by
                    subst e
                    have hl := fp_live hl
                    unfold live at hl
                    rw [hget_hset_self _ _ _ hcv.1] at hl
                    exact hl
                  have hlj : fp st.hp j jj := (fp_get (hget_hset_ne _ _ _ _ hne)).1 hl
                  exact hne (hS.hp.diss j id jj 0 g c2 c hlj (live_fp (live_box hg)) hbj hb).1
                · cases i with
                  | zero =>
                    simp at hi
                    subst hi
                    rw [Nat.zero_add, Nat.zero_mul, List.drop_zero, List.take_of_length_le (by omega)]
                    exact Row.rep_mono k1.stays r _ _ hrep
                  | succ i => simp at hi
              · exact h.elim
            · exact h.elim
          · exact h.elim
        · exact h.elim
      · exact h.elim
    | _ => exact False.elim h
  | _ => exact False.elim h
end
end Go.AX
