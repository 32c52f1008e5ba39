/- The abstract executor, part 6: every operation but the calls. -/
import Derived.Test.YtcfphoffpbncmaaAXA5N
set_option linter.unusedVariables false
set_option linter.unusedSimpArgs false
namespace Go.AX
section
variable {P : Program} {E : Env} {w : World} {β : Bs} {st : St} {a : Act}
/-- What is owed of one operation: what stands behind it may be whatever the executor says. -/
abbrev Nx (w : World) (β : Bs) (st : St) (K : AV → List Obj → Prop) (F : Value → World → Prop) : Prop :=
  ∀ v av w' β' hp', K av hp' → HRep w' β' hp' → Evo w β st.hp w' β' hp' → av.rep w' β' hp' v → F v w'
theorem mkSV_spec {b : Bool} {cs : List CV} {K : SV → Prop} (h : mkSV b cs K) : (b = true ∧ K (.agg cs)) ∨ (b = false ∧ ∃ x, cs = [x] ∧ K (.c x)) := by
  unfold mkSV at h
  split at h
  · rename_i hb
    exact .inl ⟨hb, h⟩
  · rename_i hb
    split at h
    · exact .inr ⟨by simpa using hb, _, rfl, h⟩
    · exact h.elim
/-- Cells in memory, and what the executor says of them, loaded. -/
theorem load_cells {t : TypeId} {agg : Bool} {n : Nat} (hE : EnvOk P E) (ht : E.var t = some (agg, n)) {cs : List CV} {l : List Value} (hr : repL (CV.rep w β st.hp) cs l) {K : SV → Prop} (hk : mkSV agg cs K) (hn : cs.length = n)
    {b o : Nat} (hc : ∀ (j : Nat) (u : Value), l[j]? = some u → w.cell? ⟨b, o + j, none⟩ = some u) : ∃ sv v, K sv ∧ sv.rep w β st.hp v ∧ (loadVar t ⟨b, o, none⟩).run P w = .ok v w := by
  obtain ⟨d, i, hu, hd, hi, hs⟩ := hE.var t agg n ht
  have hl := repL.len _ _ hr
  rcases mkSV_spec hk with ⟨rfl, hK⟩ | ⟨rfl, x, rfl, hK⟩
  · exact ⟨_, _, hK, ⟨l, rfl, hr⟩, run_loadVar_agg hu hd hi (by omega) hc⟩
  · match l, hr with
    | [u], hr => exact ⟨_, u, hK, hr.1, run_loadVar_one hu hd (hc 0 u rfl)⟩
theorem row_load (hE : EnvOk P E) (hH : HRep w β st.hp) {t : TypeId} {agg : Bool} {n : Nat} (ht : E.var t = some (agg, n)) {r : Row} {xs : List r.den} {i : Int} (hi : 0 ≤ i ∧ i < xs.length) {off : Nat} (hoff : off + n ≤ r.size)
    {b o : Nat} {cells : Array Value} {e : TypeId} {fz : Nat × Nat} (hg : w.heap[b]? = some (.cells cells e fz)) (hall : ∀ (i : Nat) (x : r.den), xs[i]? = some x → r.rep w (imm w β st.hp) x ((cells.toList.drop (o + i * r.size)).take r.size))
    {K : SV → Prop} (h : mkSV agg (((r.cvs (xs.getD i.toNat r.zero)).drop off).take n) K) : ∃ sv v, K sv ∧ sv.rep w β st.hp v ∧ (loadVar t ⟨b, o + i.toNat * r.size + off, none⟩).run P w = .ok v w := by
  have hx : xs[i.toNat]? = some (xs.getD i.toNat r.zero) := by
    have : i.toNat < xs.length := by omega
    simp [List.getD, List.getElem?_eq_getElem this]
  have hrow := hall _ _ hx
  have hlen := r.rep_len _ _ hrow
  have hr := r.cvs_rep _ _ hrow (β := β) (hp := st.hp)
  have hcl := repL.len _ _ hr
  rw [hlen] at hcl
  refine load_cells hE ht (repL.take n _ _ (repL.drop off _ _ hr)) h (by rw [List.length_take, List.length_drop, hcl]; omega) (fun j u hj => ?_)
  rw [List.getElem?_take] at hj
  split at hj
  · rw [List.getElem?_drop, List.getElem?_take] at hj
    split at hj
    · rw [List.getElem?_drop] at hj
      simp only [World.cell?, hg]
      have e : o + i.toNat * r.size + off + j = o + i.toNat * r.size + (off + j) := by omega
      rw [e]
      simpa using hj
    · cases hj
  · cases hj
theorem aload0_run (hE : EnvOk P E) (hH : HRep w β st.hp) {t : TypeId} {p : AV} {vp : Value} (hp : p.rep w β st.hp vp) {K : AV → List Obj → Prop} (h : aload0 E t st.hp p K) :
    ∃ sv v, K (.s sv) st.hp ∧ sv.rep w β st.hp v ∧ (Instr.loadAt t vp).run P w = .ok v w := by
  unfold aload0 at h
  split at h
  · rename_i agg n ht
    split at h
    · split at h
      · rename_i hoff
        obtain ⟨hi, b, o, rfl, hb, cells, e, fz, hg, hall⟩ := hp
        obtain ⟨sv, v, h1, h2, h3⟩ := row_load hE hH ht hi hoff hg hall h
        exact ⟨sv, v, h1, h2, by simpa [Instr.loadAt, Instr.sureAddr] using h3⟩
      · exact h.elim
    · split at h
      · rename_i he
        split at h
        · rename_i hoff
          have h2 := hp.2
          rw [he] at h2
          obtain ⟨hi, g, c, hb, rfl⟩ := h2
          have ho := hH.obj _ hp.1
          unfold ObjRep at ho
          rw [he] at ho
          rcases ho with ⟨h0, _⟩ | ⟨g', cap, cells, h0, hg, _, _, _, hall⟩
          · rw [hb] at h0; cases h0
          · rw [hb] at h0
            injection h0 with h0
            injection h0 with h0 h0'
            subst h0
            obtain ⟨sv, v, h1, h2, h3⟩ := row_load (o := 0) hE hH ht hi hoff hg (by simpa using hall) h
            exact ⟨sv, v, h1, h2, by simpa [Instr.loadAt, Instr.sureAddr] using h3⟩
        · exact h.elim
      · exact h.elim
    · split at h
      · rename_i he
        split at h
        · rename_i hoff
          have h2 := hp.2
          rw [he] at h2
          obtain ⟨g, c, hb, rfl⟩ := h2
          have ho := hH.obj _ hp.1
          unfold ObjRep at ho
          rw [he] at ho
          obtain ⟨g', c', cells, h0, hg, hr, _⟩ := ho
          rw [hb] at h0
          injection h0 with h0
          injection h0 with h0 h0'
          subst h0
          obtain ⟨sv, v, h1, h2, h3⟩ := load_cells hE ht (repL.take n _ _ (repL.drop _ _ _ hr)) h (by simp; omega) (fun j u hj => seg_cell hg j u hj)
          exact ⟨sv, v, h1, h2, by simpa [Instr.loadAt, Instr.sureAddr] using h3⟩
        · exact h.elim
      · exact h.elim
    · exact h.elim
  · exact h.elim
theorem aload_run (hE : EnvOk P E) (hH : HRep w β st.hp) {t : TypeId} {p : AV} {vp : Value} (hp : p.rep w β st.hp vp) {K : AV → List Obj → Prop} (h : aload E t st.hp p K) :
    ∃ av v β' hp', K av hp' ∧ HRep w β' hp' ∧ Evo w β st.hp w β' hp' ∧ av.rep w β' hp' v ∧ (Instr.loadAt t vp).run P w = .ok v w := by
  have key : aload0 E t st.hp p K → ∃ av v β' hp', K av hp' ∧ HRep w β' hp' ∧ Evo w β st.hp w β' hp' ∧ av.rep w β' hp' v ∧ (Instr.loadAt t vp).run P w = .ok v w := fun h => by
    obtain ⟨sv, v, h1, h2, h3⟩ := aload0_run hE hH hp h
    exact ⟨_, v, β, st.hp, h1, hH, Evo.refl _ _ _, h2, h3⟩
  unfold aload at h
  split at h
  · rename_i id i off
    split at h
    · rename_i e pk eb r xs ov hg
      have h2 := hp.2
      rw [hg] at h2
      obtain ⟨hi, g0, c0, hb0, rfl⟩ := h2
      have hrun : ∀ {β' : Bs} {hp' : List Obj} {g cap : Nat}, Evo w β st.hp w β' hp' → β'.f id 0 = some (g, cap) → (∃ e pk0 eb r xs ov, hget hp' id = .nest e pk0 eb r xs ov) → g = g0 := fun {β' hp' g cap} he hb hn => by
        obtain ⟨e', pk', eb', r', xs', ov', hn⟩ := hn
        have := he.obj id hp.1
        rw [hg, hn] at this
        have h5 : β'.f id 0 = β.f id 0 := this.2.2.2.2.1
        have hb0 : β.f id 0 = some (g0, c0) := hb0
        rw [hb, hb0] at h5
        injection h5 with h5
        injection h5
      split at h
      · rename_i n ht
        split at h
        · rename_i hc
          obtain ⟨hoff, hn⟩ := hc
          subst hoff
          obtain ⟨pk1, x, m, β', hp', hK, hH', hE', g, cap, cells, e1, u, k0, k1, k2, k3, k4, e2, pk2, eb2, r2, xs2, ov2, k5, k6, k7⟩ := focus_run hH h
          rw [hg] at k5
          injection k5 with _ k5
          subst k5
          subst k6
          have hgg := hrun hE' k0 k7
          subst hgg
          split at hK
          · rename_i k
            obtain ⟨d, inf, hu, hd, hi', hs⟩ := hE.var t true n ht
            have hl : ([.int k x, u] : List Value).length = inf.size := by rw [hs, hn]; rfl
            refine ⟨_, .agg [.int k x, u].toArray, β', hp', hK, hH', hE', ⟨[.int k x, u], rfl, ⟨rfl, rfl⟩, k4, trivial⟩, ?_⟩
            have := run_loadVar_agg (P := P) (w := w) (b := g) (o := i.toNat * nsz (some k) + 0) hu hd hi' hl (fun j v hj => by
              simp only [World.cell?, k1]
              match j, hj with
              | 0, hj => injection hj with hj; subst hj; simpa using k2 k rfl
              | 1, hj => injection hj with hj; subst hj; simpa [nbo] using k3)
            simpa [Instr.loadAt, Instr.sureAddr] using this
          · exact hK.elim
        · exact h.elim
      · rename_i n ht
        split at h
        · rename_i hc
          obtain ⟨hoff, hn⟩ := hc
          subst hoff
          obtain ⟨pk1, x, m, β', hp', hK, hH', hE', g, cap, cells, e1, u, k0, k1, k2, k3, k4, e2, pk2, eb2, r2, xs2, ov2, k5, k6, k7⟩ := focus_run hH h
          rw [hg] at k5
          injection k5 with _ k5
          subst k5
          subst k6
          have hgg := hrun hE' k0 k7
          subst hgg
          obtain ⟨d, inf, hu, hd, hi', hs⟩ := hE.var t false n ht
          refine ⟨_, u, β', hp', hK, hH', hE', k4, ?_⟩
          have := run_loadVar_one (P := P) (w := w) (b := g) (o := i.toNat * nsz pk + nbo pk) (u := u) hu hd (by
            simp only [World.cell?, k1]
            simpa using k3)
          simpa [Instr.loadAt, Instr.sureAddr] using this
        · exact h.elim
      · exact h.elim
    · exact key h
  · exact key h
/-- A store into a variable of the call's own. -/
theorem astore0_run (hE : EnvOk P E) (hH : HRep w β st.hp) {t : TypeId} {p x : AV} {vp vx : Value} (hp : p.rep w β st.hp vp) (hx : x.rep w β st.hp vx) {K : List Obj → Prop} (h : astore0 E t st.hp p x K) :
    ∃ hp' w', K hp' ∧ HRep w' β hp' ∧ Evo w β st.hp w' β hp' ∧ (Instr.storeAt t vp vx).run P w = .ok () w' := by
  unfold astore0 at h
  split at h
  · rename_i agg n x ht
    split at h
    · rename_i hs
      obtain ⟨d, i, hu, hd, hi, hsz⟩ := hE.var t agg n ht
      obtain ⟨c1, c2, c3⟩ := sv_cells hx hs.2
      split at h
      · rename_i id off
        split at h
        · rename_i e cs he
          split at h
          · rename_i hoff
            have h2 := hp.2
            rw [he] at h2
            obtain ⟨g, c, hb, rfl⟩ := h2
            have ho := hH.obj _ hp.1
            unfold ObjRep at ho
            rw [he] at ho
            obtain ⟨g', c', cells, h0, hg, hr, hone⟩ := ho
            rw [hb] at h0
            injection h0 with h0
            injection h0 with h0 h0'
            subst h0
            have hcl := repL.len _ _ hr
            have hst := run_storeVar_at (P := P) (o := off) hi hg (v := vx) (by omega) (by simp at hcl; omega) c3
            obtain ⟨h3, h4⟩ := hH.turn (w' := w.setRow g (cells.toList.take off ++ vx.cells.toList ++ cells.toList.drop (off + vx.cells.size)).toArray) (.box e (cs.take off ++ x.list ++ cs.drop (off + n))) (live_box he) hb (fun j hj => by unfold fp; rw [he]; exact hj) rfl rfl rfl (by simp) (fun b _ hne => setRow_other w _ b _ hne) (fun ok => by rw [he]; exact rfl)
            refine ⟨_, _, h, h4 ?_, h3, by simpa [Instr.storeAt, Instr.sureAddr] using hst⟩
            unfold ObjRep
            rw [hget_hset_self _ _ _ hp.1]
            refine ⟨g, c, _, hb, setRow_heap w g cells _ _ _ hg, ?_, ?_⟩
            · refine repL.append _ _ _ _ (repL.append _ _ _ _ (h3.cvs (repL.take _ _ _ hr)) (h3.cvs c1)) ?_
              have e1 : off + vx.cells.size = off + n := by omega
              have := h3.cvs (repL.drop (off + n) _ _ hr)
              rw [e1] at this ⊢
              exact this
            · intro u hu
              simp only [List.mem_append] at hu
              rcases hu with (hu | hu) | hu
              · exact hone u (List.mem_of_mem_take hu)
              · exact c3 u hu
              · exact hone u (List.mem_of_mem_drop hu)
          · exact h.elim
        · rename_i e cs he
          split at h
          · rename_i hoff
            have h2 := hp.2
            rw [he] at h2
            obtain ⟨g, c, hb, rfl⟩ := h2
            have ho := hH.obj _ hp.1
            unfold ObjRep at ho
            rw [he] at ho
            obtain ⟨g', c', cells, h0, hg, hr, hone⟩ := ho.resolve_left (fun h => by rw [hb] at h; cases h)
            rw [hb] at h0
            injection h0 with h0
            injection h0 with h0 h0'
            subst h0
            have hcl := repL.len _ _ hr
            have hst := run_storeVar_at (P := P) (o := off) hi hg (v := vx) (by omega) (by simp at hcl; omega) c3
            obtain ⟨h3, h4⟩ := hH.turn (w' := w.setRow g (cells.toList.take off ++ vx.cells.toList ++ cells.toList.drop (off + vx.cells.size)).toArray) (.box e (cs.take off ++ x.list ++ cs.drop (off + n))) (show live st.hp id by unfold live; rw [he]; trivial) hb (fun j hj => by unfold fp; rw [he]; exact hj) rfl rfl rfl (by simp) (fun b _ hne => setRow_other w _ b _ hne) (fun ok => by rw [he]; exact .inl ⟨rfl, by rw [hb]; simp⟩)
            refine ⟨_, _, h, h4 ?_, h3, by simpa [Instr.storeAt, Instr.sureAddr] using hst⟩
            unfold ObjRep
            rw [hget_hset_self _ _ _ hp.1]
            refine ⟨g, c, _, hb, setRow_heap w g cells _ _ _ hg, ?_, ?_⟩
            · refine repL.append _ _ _ _ (repL.append _ _ _ _ (h3.cvs (repL.take _ _ _ hr)) (h3.cvs c1)) ?_
              have e1 : off + vx.cells.size = off + n := by omega
              have := h3.cvs (repL.drop (off + n) _ _ hr)
              rw [e1] at this ⊢
              exact this
            · intro u hu
              simp only [List.mem_append] at hu
              rcases hu with (hu | hu) | hu
              · exact hone u (List.mem_of_mem_take hu)
              · exact c3 u hu
              · exact hone u (List.mem_of_mem_drop hu)
          · exact h.elim
        · exact h.elim
      · exact h.elim
    · exact h.elim
  · exact h.elim

theorem r_cvs_len : (r : Row) → (x : r.den) → (r.cvs x).length = r.size
  | .one t, x => rfl
  | .cons t r, x => by simp [Row.cvs, Row.size, r_cvs_len r]
theorem astore_run (hE : EnvOk P E) (hH : HRep w β st.hp) {t : TypeId} {p x : AV} {vp vx : Value} (hp : p.rep w β st.hp vp) (hx : x.rep w β st.hp vx) {K : List Obj → Prop} (h : astore E t st.hp p x K) :
    ∃ hp' w', K hp' ∧ HRep w' β hp' ∧ Evo w β st.hp w' β hp' ∧ (Instr.storeAt t vp vx).run P w = .ok () w' := by
  unfold astore at h
  split at h
  · rename_i id i off
    split at h
    · rename_i agg n x ht
      obtain ⟨d, inf, hu, hd, hi, hsz⟩ := hE.var t agg n ht
      split at h
      · rename_i e r xs hg
        split at h
        · rename_i y hy
          split at h
          · rename_i hc
            obtain ⟨hoff, hxl, hsol⟩ := hc
            obtain ⟨c1, c2, c3⟩ := sv_cells hx hsol
            have h2 := hp.2
            rw [hg] at h2
            obtain ⟨hib, g, c, hb, rfl⟩ := h2
            have ho := hH.obj _ hp.1
            unfold ObjRep at ho
            rw [hg] at ho
            rcases ho with ⟨h0, _⟩ | ⟨g', cap, cells, h0, hgg, hcs, hlc, hcm, hall⟩
            · rw [hb] at h0; cases h0
            · rw [hb] at h0
              injection h0 with h0
              injection h0 with h0 h0'
              subst h0
              subst h0'
              have hil : i.toNat < xs.length := by omega
              have hxi := List.getElem?_eq_getElem hil
              have hxd : xs.getD i.toNat r.zero = xs[i.toNat] := by rw [List.getD_eq_getElem?_getD, hxi]; rfl
              have hrow := hall _ _ hxi
              have hrl := r.rep_len _ _ hrow
              have hfit : i.toNat * r.size + r.size ≤ cells.size := by
                have := r.size_pos
                rw [List.length_take, List.length_drop] at hrl
                simp at hrl
                omega
              have hst := run_storeVar_at (P := P) (o := i.toNat * r.size + off) hi hgg (v := vx) (by omega) (by omega) c3
              have hvs : vx.cells.toList.length = n := by simp; omega
              obtain ⟨h3, h4⟩ := hH.turn (w' := w.setRow g (cells.toList.take (i.toNat * r.size + off) ++ vx.cells.toList ++ cells.toList.drop (i.toNat * r.size + off + vx.cells.size)).toArray) (.row e r (lset xs i.toNat y)) (live_row hg) hb (fun j hj => by unfold fp; rw [hg]; exact hj) rfl rfl rfl (by simp) (fun b _ hne => setRow_other w _ b _ hne) (fun ok => by rw [hg]; exact ⟨rfl, rfl, rfl, lset_len _ _ _⟩)
              refine ⟨_, _, h, h4 ?_, h3, by simpa [Instr.storeAt, Instr.sureAddr] using hst⟩
              unfold ObjRep
              rw [hget_hset_self _ _ _ hp.1]
              have hsize : (cells.toList.take (i.toNat * r.size + off) ++ vx.cells.toList ++ cells.toList.drop (i.toNat * r.size + off + vx.cells.size)).length = cells.size := by
                simp
                omega
              refine .inr ⟨g, c, _, hb, setRow_heap w g cells _ _ _ hgg, by simp only [List.size_toArray, hsize]; exact hcs, by rw [lset_len]; exact hlc, hcm, fun j z hj => ?_⟩
              rw [List.toList_toArray]
              have hcell : ∀ a b : Nat, a + b ≤ i.toNat * r.size + off ∨ i.toNat * r.size + off + n ≤ a → ((cells.toList.take (i.toNat * r.size + off) ++ vx.cells.toList ++ cells.toList.drop (i.toNat * r.size + off + vx.cells.size)).drop a).take b = (cells.toList.drop a).take b := by
                intro a b hab
                apply List.ext_getElem?
                intro k
                by_cases hk : k < b
                · rw [List.getElem?_take_of_lt hk, List.getElem?_take_of_lt hk, List.getElem?_drop, List.getElem?_drop]
                  rcases hab with hab | hab
                  · rw [List.append_assoc, List.getElem?_append_left (by simp; omega), List.getElem?_take_of_lt (by omega)]
                  · rw [List.getElem?_append_right (by simp; omega), List.getElem?_drop]
                    congr 1
                    simp
                    omega
                · rw [List.getElem?_eq_none (by simp; omega), List.getElem?_eq_none (by simp; omega)]
              rcases lset_get hj with ⟨rfl, rfl, _⟩ | ⟨hne, hj⟩
              · have hold := r.cvs_rep (β := β) (hp := st.hp) _ _ hrow
                rw [← hxd] at hold
                have hnew := repL.append _ _ _ _ (repL.append _ _ _ _ (repL.take off _ _ hold) c1) (repL.drop (off + n) _ _ hold)
                have hz := r.ofCvs_rep _ _ _ hy hnew
                have hz := Row.rep_mono h3.stays r _ _ hz
                have e1 : ((cells.toList.take (i.toNat * r.size + off) ++ vx.cells.toList ++ cells.toList.drop (i.toNat * r.size + off + vx.cells.size)).drop (i.toNat * r.size)).take r.size =
                    ((cells.toList.drop (i.toNat * r.size)).take r.size).take off ++ vx.cells.toList ++ ((cells.toList.drop (i.toNat * r.size)).take r.size).drop (off + n) := by
                  apply List.ext_getElem?
                  intro k
                  by_cases hk : k < r.size
                  · rw [List.getElem?_take_of_lt hk, List.getElem?_drop]
                    by_cases k1 : k < off
                    · rw [List.append_assoc, List.getElem?_append_left (by simp; omega), List.getElem?_take_of_lt (by omega), List.append_assoc, List.getElem?_append_left (by simp; omega), List.getElem?_take_of_lt k1, List.getElem?_take_of_lt hk, List.getElem?_drop]
                    · by_cases k2 : k < off + n
                      · rw [List.getElem?_append_left (by simp; omega), List.getElem?_append_right (by simp; omega), List.getElem?_append_left (by simp; omega), List.getElem?_append_right (by simp; omega)]
                        congr 1
                        simp
                        omega
                      · rw [List.getElem?_append_right (by simp; omega), List.getElem?_drop, List.getElem?_append_right (by simp; omega), List.getElem?_drop, List.getElem?_take_of_lt (by simp; omega), List.getElem?_drop]
                        congr 1
                        simp
                        omega
                  · rw [List.getElem?_eq_none (by simp; omega), List.getElem?_eq_none (by simp; omega)]
                rw [e1]
                exact hz
              · rw [hcell (j * r.size) r.size ?_]
                · exact Row.rep_mono h3.stays r _ _ (hall j z hj)
                · rcases Nat.lt_or_gt_of_ne hne with hlt | hlt
                  · left
                    have : (j + 1) * r.size ≤ i.toNat * r.size := Nat.mul_le_mul_right _ hlt
                    rw [Nat.add_mul] at this
                    omega
                  · right
                    have : (i.toNat + 1) * r.size ≤ j * r.size := Nat.mul_le_mul_right _ hlt
                    rw [Nat.add_mul] at this
                    omega
          · exact h.elim
        · exact h.elim
      · rename_i e pk eb r xs ov hg
        split at h
        · rename_i c
          split at h
          · rename_i hc
            obtain ⟨hoff, hn, hsol⟩ := hc
            obtain ⟨hov, hK⟩ := h
            subst hoff
            obtain ⟨c1, c2, c3⟩ := sv_cells (x := .c c) hx (by simpa [SV.list] using hsol)
            have hone : vx.oneCell' = true := solid_one hsol hx
            have hvc : vx.cells = #[vx] := by cases vx <;> first | rfl | cases hone
            have h2 := hp.2
            rw [hg] at h2
            obtain ⟨hib, g, c', hb, rfl⟩ := h2
            have hid := hp.1
            have ho := hH.obj _ hid
            unfold ObjRep at ho
            rw [hg] at ho
            obtain ⟨g', cap, cells, k0, k1, k2, k3, k4, k5, hall⟩ := ho
            have hb : β.f id 0 = some (g, c') := hb
            rw [hb] at k0
            injection k0 with k0
            injection k0 with k0 k0'
            subst k0
            subst k0'
            have hil : i.toNat < xs.length := by omega
            have hsz0 : nbo pk < nsz pk := by cases pk <;> simp [nbo, nsz]
            have hfit : i.toNat * nsz pk + nbo pk < cells.size := by
              rw [k2]
              have : (i.toNat + 1) * nsz pk ≤ c' * nsz pk := Nat.mul_le_mul_right _ (by omega)
              rw [Nat.add_mul] at this
              omega
            have hst := run_storeVar_at (P := P) (o := i.toNat * nsz pk + nbo pk) hi k1 (v := vx) (by rw [hvc, hsz, hn]; rfl) (by rw [hvc]; simp; omega) c3
            rw [hvc] at hst
            have hfi : ∀ j, fpO (.nest e pk eb r xs (some (i.toNat, c))) j → fp st.hp id j := fun j hj => by
              unfold fp fpO
              rw [hg]
              refine ⟨hj.1, fun p hp => ?_⟩
              subst hp
              have hov : i.toNat = p.1 := hov
              rw [← hov]
              exact hj.2 _ rfl
            obtain ⟨h3, h4⟩ := hH.turn (w' := w.setRow g (cells.toList.take (i.toNat * nsz pk + nbo pk) ++ #[vx].toList ++ cells.toList.drop (i.toNat * nsz pk + nbo pk + #[vx].size)).toArray) (.nest e pk eb r xs (some (i.toNat, c))) (live_nest hg) hb hfi rfl rfl rfl (by simp) (fun b _ hne => setRow_other w _ b _ hne) (fun ok => by rw [hg]; exact ⟨rfl, rfl, rfl, rfl, rfl, rfl⟩)
            refine ⟨_, _, hK, h4 ?_, h3, by simpa [Instr.storeAt, Instr.sureAddr] using hst⟩
            unfold ObjRep
            rw [hget_hset_self _ _ _ hid]
            have hget : ∀ q, ((cells.toList.take (i.toNat * nsz pk + nbo pk) ++ #[vx].toList ++ cells.toList.drop (i.toNat * nsz pk + nbo pk + #[vx].size)).toArray)[q]? = if q = i.toNat * nsz pk + nbo pk then some vx else cells[q]? := by
              intro q
              rw [List.getElem?_toArray]
              split
              · rename_i e
                subst e
                rw [List.append_assoc, List.getElem?_append_right (by simp; omega)]
                simp [Nat.min_eq_left (Nat.le_of_lt hfit)]
              · rename_i e
                rcases Nat.lt_or_gt_of_ne e with hlt | hlt
                · rw [List.append_assoc, List.getElem?_append_left (by simp; omega), List.getElem?_take_of_lt hlt]
                  simp
                · rw [List.getElem?_append_right (by simp; omega), List.getElem?_drop]
                  have : i.toNat * nsz pk + nbo pk + #[vx].size + (q - (List.take (i.toNat * nsz pk + nbo pk) cells.toList ++ #[vx].toList).length) = q := by simp; omega
                  rw [this]
                  simp
            have hinj : ∀ a b : Nat, a * nsz pk + nbo pk = b * nsz pk + nbo pk → a = b := fun a b e => by
              have : a * nsz pk = b * nsz pk := by omega
              exact Nat.eq_of_mul_eq_mul_right (by omega) this
            refine ⟨g, c', _, hb, setRow_heap w g cells _ _ _ k1, ?_, k3, k4, ?_, fun j x hxj => ?_⟩
            · rw [← k2]
              simp
              omega
            · intro q hq
              injection hq with hq
              subst hq
              exact hil
            · obtain ⟨a1, u, a2, a3, a4⟩ := hall j x hxj
              refine ⟨fun k hk => ?_, ?_⟩
              · rw [hget, if_neg ?_]
                · exact a1 k hk
                · subst hk
                  intro e
                  simp only [nsz, nbo] at e
                  omega
              · by_cases hj : j = i.toNat
                · subst hj
                  refine ⟨vx, by rw [hget, if_pos rfl], fun q hq _ => ?_, fun hn => ?_⟩
                  · injection hq with hq
                    subst hq
                    exact h3.cv hx
                  · exact absurd rfl (hn _ rfl)
                · refine ⟨u, by rw [hget, if_neg (fun e => hj (hinj _ _ e))]; exact a2, fun q hq e => ?_, fun _ => ?_⟩
                  · injection hq with hq
                    subst hq
                    exact absurd e.symm hj
                  · obtain ⟨b1, b2⟩ := a4 (fun q hq => by
                      cases ov with
                      | none => cases hq
                      | some p =>
                        injection hq with hq
                        subst hq
                        have hov : i.toNat = p.1 := hov
                        intro e
                        exact hj (e.symm.trans hov.symm))
                    have hj1 := (List.getElem?_eq_some_iff.1 hxj).1
                    refine ⟨b1, b2.mono h3.stays fun g2 c2 he => setRow_other w _ g2 _ fun e => ?_⟩
                    subst e
                    have := (hH.diss id id (j + 1) 0 g2 c2 c' (by
                      unfold fp fpO
                      rw [hg]
                      refine ⟨by omega, fun p hp => ?_⟩
                      subst hp
                      have hov : i.toNat = p.1 := hov
                      omega) (live_fp (live_nest hg)) he hb).2
                    omega
          · exact h.elim
        · exact h.elim
      · exact h.elim
    · exact h.elim
  · exact astore0_run hE hH hp hx h

theorem alen_run (hE : EnvOk P E) (hH : HRep w β st.hp) {t ty : TypeId} {x : AV} {vx : Value} (hx : x.rep w β st.hp vx) {K : AV → List Obj → Prop} (h : alen E t st.hp x K) :
    ∃ n : Int, K (.i n) st.hp ∧ (Builtin.len_ #[t] ty #[vx]).run P w = .ok (.int .i64 n) w := by
  unfold alen at h
  split at h
  · rename_i q ht
    obtain ⟨e, r, b⟩ := q
    obtain ⟨hu, _⟩ := hE.slice t e r b ht
    split at h
    · refine ⟨_, h, ?_⟩
      rw [hx.1]
      simp [Builtin.len_, run_underlying hu, goInt]
    · split at h
      · rename_i hs
        obtain ⟨A, c, hv, _⟩ := sliceOf_rd hH hx hs
        refine ⟨_, h, ?_⟩
        rw [hv]
        simp [Builtin.len_, run_underlying hu, goInt]
      · split at h
        · split at h
          · rename_i hg
            have hv := hx.2
            rw [hg] at hv
            have hv : vx = ownVal _ _ := hv
            refine ⟨_, h, ?_⟩
            rw [hv]
            cases hb : β.main _ with
            | none =>
              have ho := hH.obj _ hx.1
              unfold ObjRep at ho
              rw [hg] at ho
              obtain ⟨g, cap, cells, c0, _⟩ := ho
              have c0 : β.main _ = some (g, cap) := c0
              rw [hb] at c0
              cases c0
            | some p => simp [Builtin.len_, run_underlying hu, goInt, ownVal]
          · exact h.elim
        · exact h.elim
    · exact h.elim
  · split at h
    · rename_i hs
      refine ⟨_, h, ?_⟩
      rw [hx.1]
      simp [Builtin.len_, run_underlying (hE.str t hs), goInt]
    · exact h.elim
theorem Rd.news {ok : Nat → Prop} {r : Row} {ys : List r.den} {v : Value} (h : Rd w ok r ys v) : ∃ (A : Option Addr) (c : Nat) (news : List Value), v = .slice A ys.length c ∧ news.length = ys.length * r.size ∧ (∀ u : Value, u ∈ news → u.oneCell' = true) ∧
    (ys.length = 0 ∨ ∃ ad, A = some ad ∧ ∀ (j : Nat) (u : Value), news[j]? = some u → w.cell? (ad.add j) = some u) ∧ ∀ (i : Nat) (x : r.den), ys[i]? = some x → r.rep w ok x ((news.drop (i * r.size)).take r.size) := by
  obtain ⟨A, c, hv, hl, hx⟩ := h
  rcases hx with rfl | ⟨b, o, rfl, cells, e, fz, hg, hall⟩
  · exact ⟨A, c, [], hv, by simp, by simp, .inl rfl, fun i x hx => by simp at hx⟩
  · obtain ⟨h1, h2⟩ := seg_all hall
    refine ⟨_, c, (cells.toList.drop o).take (ys.length * r.size), hv, h1, h2, .inr ⟨_, rfl, fun j u hj => by rw [Addr.add_lit]; exact seg_cell hg j u hj⟩, fun i x hx => ?_⟩
    have hi : i < ys.length := by
      rcases Nat.lt_or_ge i ys.length with h' | h'
      · exact h'
      · rw [List.getElem?_eq_none h'] at hx; cases hx
    have := hall i x hx
    have e1 : i * r.size + r.size ≤ ys.length * r.size := by rw [← Nat.succ_mul]; exact Nat.mul_le_mul_right _ hi
    rw [List.drop_take, List.take_take, List.drop_drop, Nat.min_eq_left (by omega)]
    exact this
theorem castRow_eq {r' r : Row} {xs : List r'.den} {ys : List r.den} (h : castRow r' r xs = some ys) : ∃ h : r' = r, h ▸ xs = ys := castRow_spec h
/-- append: a row that the call made (or nil) and a slice. -/
theorem aappend_run (hE : EnvOk P E) (hH : HRep w β st.hp) {t ty : TypeId} {x y : AV} {vx vy : Value} (hx : x.rep w β st.hp vx) (hy : y.rep w β st.hp vy) {K : AV → List Obj → Prop} (h : aappend E t st.hp x y K) :
    ∃ v av w' β' hp', K av hp' ∧ HRep w' β' hp' ∧ Evo w β st.hp w' β' hp' ∧ av.rep w' β' hp' v ∧ (Builtin.append_ #[t, t] ty #[vx, vy]).run P w = .ok v w' := by
  unfold aappend at h
  split at h
  · rename_i e r bytes y ht
    obtain ⟨hu, i, z, hi, hsz, hby, hz, hzs, hb0⟩ := hE.slice t e r bytes ht
    split at h
    · rename_i e' r' ys hs
      have hrd := sliceOf_rd hH hy hs
      split at h
      · rename_i ys' hc
        obtain ⟨rfl, rfl⟩ := castRow_eq hc
        obtain ⟨A, c, news, rfl, hnl, hn1, hnA, hnr⟩ := hrd.news
        rw [← hsz] at hnl
        split at h
        · rename_i id
          split at h
          · rename_i e'' r'' xs he
            split at h
            · rename_i hee
              subst hee
              split at h
              · rename_i xs' hc'
                obtain ⟨rfl, rfl⟩ := castRow_eq hc'
                obtain ⟨rfl, hro⟩ := own_row hH hx he
                obtain ⟨olds, hold, hol, hor⟩ : ∃ olds : List Value, ((β id = none ∧ xs.length = 0 ∧ olds = []) ∨ ∃ g cap cells, β id = some (g, cap) ∧ w.heap[g]? = some (.cells cells e'' (0, 0)) ∧ cells.size = cap * i.size ∧ xs.length ≤ cap ∧ cap ≤ maxLen ∧ olds = cells.toList.take (xs.length * i.size)) ∧
                    olds.length = xs.length * r''.size ∧ ∀ (i : Nat) (x : r''.den), xs[i]? = some x → r''.rep w (imm w β st.hp) x ((olds.drop (i * r''.size)).take r''.size) := by
                  rcases hro with ⟨h0, rfl⟩ | ⟨g, cap, cells, h0, hg, hs', hl, hm, hall⟩
                  · exact ⟨[], .inl ⟨h0, rfl, rfl⟩, by simp, fun i x hx => by simp at hx⟩
                  · refine ⟨_, .inr ⟨g, cap, cells, h0, hg, by rw [hsz]; exact hs', hl, hm, rfl⟩, ?_, fun j x hx => ?_⟩
                    · have := (seg_all (o := 0) (L := cells.toList) (by simpa using hall)).1
                      rw [hsz]
                      simpa using this
                    · have hj : j < xs.length := by
                        rcases Nat.lt_or_ge j xs.length with h' | h'
                        · exact h'
                        · rw [List.getElem?_eq_none h'] at hx; cases hx
                      have := hall j x hx
                      have e1 : j * r''.size + r''.size ≤ xs.length * r''.size := by rw [← Nat.succ_mul]; exact Nat.mul_le_mul_right _ hj
                      rw [hsz, List.drop_take, List.take_take, Nat.min_eq_left (by omega)]
                      exact this
                obtain ⟨o', w', hrun, a1, a2, a3, a4, a5, a6, a7⟩ := run_append (P := P) (ty := ty) hu hi hz (by rw [hzs, hsz]) (by rw [hsz]; exact r''.size_pos) (by rw [hby]; exact hb0) (β id) xs.length olds hold A ys.length c news hnA hnl hn1 (by rw [hby]; exact h.1)
                obtain ⟨e1, e2⟩ := hH.swap (.row e'' r'' (xs ++ ys)) o' (live_row he) (fun e cs h => by rw [he] at h; cases h) a1 a2 a3 a4 a5 a6
                refine ⟨_, _, w', _, _, h.2, e2 ?_, e1, ⟨by simp [hset_len], ?_⟩, hrun⟩
                · have hg0 : hget (hset st.hp id Obj.gone ++ [Obj.row e'' r'' (xs ++ ys)]) st.hp.length = .row e'' r'' (xs ++ ys) := by
                    have := hget_append_new (hset st.hp id .gone) (Obj.row e'' r'' (xs ++ ys))
                    rwa [hset_len] at this
                  unfold ObjRep
                  rw [hg0, bnew_at]
                  rcases a7 with ⟨b1, b2⟩ | ⟨g, cap, cells, b1, b2, b3, b4, b5, C, b6⟩
                  · refine .inl ⟨b1, ?_⟩
                    exact List.eq_nil_of_length_eq_zero (by simpa using b2)
                  · refine .inr ⟨g, cap, cells, b1, b2, by rw [← hsz]; exact b3, by simpa using b4, b5, ?_⟩
                    rw [b6]
                    exact fun i x hx => Row.rep_mono e1.stays _ _ _ (seg_append hol hor hnr i x hx)
                · have hg0 : hget (hset st.hp id Obj.gone ++ [Obj.row e'' r'' (xs ++ ys)]) st.hp.length = .row e'' r'' (xs ++ ys) := by
                    have := hget_append_new (hset st.hp id .gone) (Obj.row e'' r'' (xs ++ ys))
                    rwa [hset_len] at this
                  rw [hg0, bnew_at]
                  show ownVal o' _ = ownVal o' _
                  rw [List.length_append]
              · exact h.elim
            · exact h.elim
          · exact h.elim
        · obtain ⟨rfl, _⟩ := hx
          obtain ⟨o', w', hrun, a1, a2, a3, a4, a5, a6, a7⟩ := run_append (P := P) (ty := ty) hu hi hz (by rw [hzs, hsz]) (by rw [hsz]; exact r'.size_pos) (by rw [hby]; exact hb0) none 0 [] (.inl ⟨rfl, rfl, rfl⟩) A ys.length c news hnA hnl hn1 (by rw [hby, Nat.zero_add]; exact h.1)
          obtain ⟨e1, e2⟩ := hH.new (.row e r' ys) o' a1 a2 a3 a4 (fun b hb => a5 b hb (fun c hc => by cases hc)) (fun g c hg => (a6 g c hg).resolve_right (fun ⟨_, hc⟩ => by cases hc))
          refine ⟨_, _, w', _, _, h.2, e2 ?_, e1, ⟨by simp, ?_⟩, hrun⟩
          · unfold ObjRep
            rw [hget_append_new, bnew_at]
            rcases a7 with ⟨b1, b2⟩ | ⟨g, cap, cells, b1, b2, b3, b4, b5, C, b6⟩
            · refine .inl ⟨b1, ?_⟩
              exact List.eq_nil_of_length_eq_zero (by simpa using b2)
            · refine .inr ⟨g, cap, cells, b1, b2, by rw [← hsz]; exact b3, by simpa using b4, b5, ?_⟩
              rw [b6]
              exact fun i x hx => Row.rep_mono e1.stays _ _ _ (seg_append (xs := []) (A := []) (by simp) (fun i x hx => by simp at hx) hnr i x hx)
          · rw [hget_append_new, bnew_at]
            show ownVal o' _ = ownVal o' _
            rw [Nat.zero_add]
        · exact h.elim
      · exact h.elim
    · exact h.elim
  · exact h.elim
end
end Go.AX
