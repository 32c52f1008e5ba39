/- The abstract executor, part 5b: rows whose elements have rows of their own: one of these is taken out, and put back. -/
import Derived.Test.YtcfphoffpbncmaaAXA5
set_option linter.unusedVariables false
set_option linter.unusedSimpArgs false
namespace Go.AX
section
variable {P : Program} {E : Env} {w : World} {β : Bs} {hp : List Obj}
/-- Objects are turned where they lie, or let go; w stays. -/
theorem HRep.turnF (h : HRep w β hp) {id : Nat} (o : Obj) (F : Fp) {hp' : List Obj} (hl : live hp id) (hlen : hp'.length = hp.length) (hself : hget hp' id = o) (hoth : ∀ j, j ≠ id → hget hp' j = hget hp j ∨ (hget hp' j = .gone ∧ live hp j ∧ ∀ e cs, hget hp j ≠ .zbox e cs))
    (own : ∀ j g c, fpO o j → F j = some (g, c) → ∃ id0 j0 c0, fp hp id0 j0 ∧ β.f id0 j0 = some (g, c0) ∧ (id0 = id ∨ ¬ live hp' id0))
    (dis : ∀ j j' g c c', fpO o j → fpO o j' → F j = some (g, c) → F j' = some (g, c') → j = j')
    (ev : ∀ ok, ObjEvo True w ok (β id) (F 0) (hget hp id) o) :
    Evo w β hp w (bnewF β id F) hp' ∧ (ObjRep w (bnewF β id F) hp' id → HRep w (bnewF β id F) hp') := by
  have hgone : ∀ j, hget hp' j = .gone → ¬ live hp' j := fun j e hl => by
    unfold live at hl
    rw [e] at hl
    exact hl
  obtain ⟨h1, h2⟩ := h.step (w' := w) (β' := bnewF β id F) (hp' := hp') (fun j => j = id) rfl rfl rfl (Nat.le_refl _) (by omega) rfl (fun _ _ _ => rfl)
    (fun j hn hl' => by
      rcases hoth j hn with e | ⟨e, _⟩
      · exact ⟨e, bnewF_ne _ _ hn, fun _ _ _ _ _ => rfl⟩
      · exact absurd hl' (hgone j e))
    (fun j jj g c hn hf hb => by
      subst hn
      rw [bnewF_at] at hb
      unfold fp at hf
      rw [hself] at hf
      obtain ⟨id0, j0, c0, a1, a2, a3⟩ := own jj g c hf hb
      refine .inr ⟨id0, j0, c0, a1, a2, fun hn => ?_⟩
      rcases a3 with a3 | a3
      · exact absurd a3 hn
      · exact a3)
    (fun j j' jj jj' g c c' hn hn' hf hf' hb hb' => by
      subst hn hn'
      rw [bnewF_at] at hb hb'
      unfold fp at hf hf'
      rw [hself] at hf hf'
      exact ⟨rfl, dis jj jj' g c c' hf hf' hb hb'⟩)
    (fun j hj => by
      by_cases e : j = id
      · subst e
        refine .inr fun hs => ?_
        have : (bnewF β j F) j = F 0 := by show (bnewF β j F).f j 0 = _; rw [bnewF_at]
        rw [hself, this]
        exact ev _
      · rcases hoth j e with e' | ⟨e', hlj, hz⟩
        · exact .inl ⟨e', bnewF_ne _ _ e⟩
        · refine .inr fun hs => ?_
          rw [e']
          revert hz
          cases hget hp j with
          | zbox e cs => exact fun hz => absurd rfl (hz e cs)
          | _ => exact fun _ => trivial)
  exact ⟨h1, fun hn => h2 fun j hj _ => by subst hj; exact hn⟩
theorem lset_len {α : Type} (xs : List α) (i : Nat) (x : α) : (lset xs i x).length = xs.length := by simp [lset]
theorem lset_get {α : Type} {xs : List α} {i j : Nat} {x y : α} (h : (lset xs i x)[j]? = some y) : (j = i ∧ y = x ∧ i < xs.length) ∨ (j ≠ i ∧ xs[j]? = some y) := by
  unfold lset at h
  rw [List.getElem?_set] at h
  split at h
  · rename_i e
    split at h
    · rename_i hl
      injection h with h
      exact .inl ⟨e.symm, h.symm, hl⟩
    · cases h
  · rename_i e
    exact .inr ⟨fun e' => e e'.symm, h⟩
def fset (F : Fp) (i : Nat) (o : Option (Nat × Nat)) : Fp := fun j => if j = i + 1 then o else F j
theorem absorb_run (hH : HRep w β hp) {id : Nat} {K : List Obj → Prop} (h : absorb hp id K) : ∃ β' hp', K hp' ∧ HRep w β' hp' ∧ Evo w β hp w β' hp' := by
  unfold absorb at h
  split at h
  · exact ⟨β, hp, h, hH, Evo.refl _ _ _⟩
  · rename_i e pk eb r xs i m hg
    split at h
    · rename_i eb' r' ys hm
      split at h
      · rename_i he
        subst he
        split at h
        · rename_i ys' hc
          obtain ⟨rfl, rfl⟩ := castRow_spec hc
          obtain ⟨hmi, hil, hK⟩ := h
          have hid : id < hp.length := hget_lt hg (by simp)
          have hmd : m < hp.length := hget_lt hm (by simp)
          have hO := hH.obj id hid
          unfold ObjRep at hO
          rw [hg] at hO
          have hM := hH.obj m hmd
          unfold ObjRep at hM
          rw [hm] at hM
          have hM : rowObj w (imm w β hp) (β.f m 0) eb' r' ys := hM
          obtain ⟨g, cap, cells, c0, c1, c2, c3, c4, c5, hall⟩ := hO
          have hfm : fp hp m 0 := live_fp (live_row hm)
          have hfi : ∀ j, j ≤ xs.length → j ≠ i + 1 → fp hp id j := fun j hj hne => by
            unfold fp fpO
            rw [hg]
            exact ⟨hj, fun p hp => by injection hp with hp; subst hp; exact hne⟩
          have hhm : hget (hset (hset hp m .gone) id (.nest e pk eb' r' (lset xs i ((xs.getD i (0, [])).1, ys)) none)) m = .gone := by
            rw [hget_hset_ne _ _ _ _ hmi, hget_hset_self _ _ _ hmd]
          have hFi : ∀ j, j ≠ i + 1 → fset (β.f id) i (β.f m 0) j = β.f id j := fun j hne => by unfold fset; rw [if_neg hne]
          have hFm : fset (β.f id) i (β.f m 0) (i + 1) = β.f m 0 := by unfold fset; rw [if_pos rfl]
          obtain ⟨h1, h2⟩ := hH.turnF (id := id) (.nest e pk eb' r' (lset xs i ((xs.getD i (0, [])).1, ys)) none) (fset (β.f id) i (β.f m 0)) (hp' := hset (hset hp m .gone) id (.nest e pk eb' r' (lset xs i ((xs.getD i (0, [])).1, ys)) none))
            (live_nest hg) (by simp [hset_len]) (hget_hset_self _ _ _ (by rw [hset_len]; exact hid))
            (fun j hj => by
              by_cases e1 : j = m
              · subst e1
                exact .inr ⟨hhm, live_row hm, fun e cs h => by rw [hm] at h; cases h⟩
              · rw [hget_hset_ne _ _ _ _ hj, hget_hset_ne _ _ _ _ e1]
                exact .inl rfl)
            (fun j g c hf hb => by
              have hf := hf.1
              rw [lset_len] at hf
              by_cases e1 : j = i + 1
              · subst e1
                rw [hFm] at hb
                refine ⟨m, 0, c, hfm, hb, .inr ?_⟩
                unfold live
                rw [hhm]
                exact fun h => h
              · rw [hFi j e1] at hb
                exact ⟨id, j, c, hfi j hf e1, hb, .inl rfl⟩)
            (fun j j' g c c' hf hf' hb hb' => by
              have hf := hf.1
              have hf' := hf'.1
              rw [lset_len] at hf hf'
              by_cases e1 : j = i + 1
              · subst e1
                by_cases e2 : j' = i + 1
                · exact e2.symm
                · rw [hFm] at hb
                  rw [hFi j' e2] at hb'
                  exact absurd (hH.diss m id 0 j' g c c' hfm (hfi j' hf' e2) hb hb').1 hmi
              · rw [hFi j e1] at hb
                by_cases e2 : j' = i + 1
                · subst e2
                  rw [hFm] at hb'
                  exact absurd (hH.diss id m j 0 g c c' (hfi j hf e1) hfm hb hb').1.symm hmi
                · rw [hFi j' e2] at hb'
                  exact (hH.diss id id j j' g c c' (hfi j hf e1) (hfi j' hf' e2) hb hb').2)
            (fun ok => by
              rw [hg]
              exact ⟨rfl, rfl, rfl, rfl, hFi 0 (by omega), lset_len _ _ _⟩)
          refine ⟨_, _, hK, h2 ?_, h1⟩
          unfold ObjRep
          rw [hget_hset_self _ _ _ (by rw [hset_len]; exact hid), bnewF_at]
          refine ⟨g, cap, cells, by rw [hFi 0 (by omega)]; exact c0, c1, c2, by rw [lset_len]; exact c3, c4, (fun q hq => nomatch hq), fun j x hx => ?_⟩
          rcases lset_get hx with ⟨rfl, rfl, hjl⟩ | ⟨hne, hx⟩
          · obtain ⟨k1, u, k2, k3, k4⟩ := hall j _ (List.getElem?_eq_getElem hjl)
            refine ⟨fun k hk => ?_, u, k2, fun q hq => by simp at hq, fun _ => ?_⟩
            · have := k1 k hk
              rw [List.getD_eq_getElem?_getD, List.getElem?_eq_getElem hjl]
              exact this
            · have hu := k3 _ rfl rfl
              have hu : (CV.own m).rep w β hp u := hu
              have hu2 := hu.2
              rw [hm] at hu2
              have hu2 : u = ownVal (β.f m 0) ys.length := hu2
              rw [hFm]
              exact ⟨hu2, hM.mono h1.stays (fun _ _ _ => rfl)⟩
          · obtain ⟨k1, u, k2, k3, k4⟩ := hall j _ hx
            refine ⟨k1, u, k2, fun q hq => by simp at hq, fun _ => ?_⟩
            obtain ⟨a1, a2⟩ := k4 (fun q hq e1 => by
              injection hq with hq
              subst hq
              exact hne e1.symm)
            rw [hFi (j + 1) (by omega)]
            exact ⟨a1, a2.mono h1.stays (fun _ _ _ => rfl)⟩
        · exact h.elim
      · exact h.elim
    · exact h.elim
  · rename_i e pk eb r xs i hg
    obtain ⟨hil, hK⟩ := h
    have hid : id < hp.length := hget_lt hg (by simp)
    have hO := hH.obj id hid
    unfold ObjRep at hO
    rw [hg] at hO
    obtain ⟨g, cap, cells, c0, c1, c2, c3, c4, c5, hall⟩ := hO
    have hfi : ∀ j, j ≤ xs.length → j ≠ i + 1 → fp hp id j := fun j hj hne => by
      unfold fp fpO
      rw [hg]
      exact ⟨hj, fun p hp => by injection hp with hp; subst hp; exact hne⟩
    have hFi : ∀ j, j ≠ i + 1 → fset (β.f id) i none j = β.f id j := fun j hne => by unfold fset; rw [if_neg hne]
    have hFm : fset (β.f id) i none (i + 1) = none := by unfold fset; rw [if_pos rfl]
    obtain ⟨h1, h2⟩ := hH.turnF (id := id) (.nest e pk eb r (lset xs i ((xs.getD i (0, [])).1, [])) none) (fset (β.f id) i none) (hp' := hset hp id (.nest e pk eb r (lset xs i ((xs.getD i (0, [])).1, [])) none))
      (live_nest hg) (by simp [hset_len]) (hget_hset_self _ _ _ hid)
      (fun j hj => .inl (hget_hset_ne _ _ _ _ hj))
      (fun j g c hf hb => by
        have hf := hf.1
        rw [lset_len] at hf
        by_cases e1 : j = i + 1
        · subst e1
          rw [hFm] at hb
          cases hb
        · rw [hFi j e1] at hb
          exact ⟨id, j, c, hfi j hf e1, hb, .inl rfl⟩)
      (fun j j' g c c' hf hf' hb hb' => by
        have hf := hf.1
        have hf' := hf'.1
        rw [lset_len] at hf hf'
        by_cases e1 : j = i + 1
        · subst e1
          rw [hFm] at hb
          cases hb
        · rw [hFi j e1] at hb
          by_cases e2 : j' = i + 1
          · subst e2
            rw [hFm] at hb'
            cases hb'
          · rw [hFi j' e2] at hb'
            exact (hH.diss id id j j' g c c' (hfi j hf e1) (hfi j' hf' e2) hb hb').2)
      (fun ok => by
        rw [hg]
        exact ⟨rfl, rfl, rfl, rfl, hFi 0 (by omega), lset_len _ _ _⟩)
    refine ⟨_, _, hK, h2 ?_, h1⟩
    unfold ObjRep
    rw [hget_hset_self _ _ _ hid, bnewF_at]
    refine ⟨g, cap, cells, by rw [hFi 0 (by omega)]; exact c0, c1, c2, by rw [lset_len]; exact c3, c4, (fun q hq => nomatch hq), fun j x hx => ?_⟩
    rcases lset_get hx with ⟨rfl, rfl, hjl⟩ | ⟨hne, hx⟩
    · obtain ⟨k1, u, k2, k3, k4⟩ := hall j _ (List.getElem?_eq_getElem hjl)
      refine ⟨fun k hk => ?_, u, k2, fun q hq => by simp at hq, fun _ => ?_⟩
      · have := k1 k hk
        rw [List.getD_eq_getElem?_getD, List.getElem?_eq_getElem hjl]
        exact this
      · have hu := k3 _ rfl rfl
        have hu : u = .slice none 0 0 := hu.1
        rw [hFm]
        exact ⟨hu, .inl ⟨rfl, rfl⟩⟩
    · obtain ⟨k1, u, k2, k3, k4⟩ := hall j _ hx
      refine ⟨k1, u, k2, fun q hq => by simp at hq, fun _ => ?_⟩
      obtain ⟨a1, a2⟩ := k4 (fun q hq e1 => by
        injection hq with hq
        subst hq
        exact hne e1.symm)
      rw [hFi (j + 1) (by omega)]
      exact ⟨a1, a2.mono h1.stays (fun _ _ _ => rfl)⟩
  · exact h.elim
/-- What 'focus' hands on: the element's cells. -/
theorem focus_run (hH : HRep w β hp) {id i : Nat} {K : Option IntKind → Int → Nat → List Obj → Prop} (h : focus hp id i K) :
    ∃ pk x m β' hp', K pk x m hp' ∧ HRep w β' hp' ∧ Evo w β hp w β' hp' ∧ ∃ g cap cells e u, β'.f id 0 = some (g, cap) ∧ w.heap[g]? = some (.cells cells e (0, 0)) ∧ (∀ k, pk = some k → cells[i * nsz pk]? = some (.int k x)) ∧ cells[i * nsz pk + nbo pk]? = some u ∧ (CV.own m).rep w β' hp' u ∧
      ∃ e pk0 eb r xs ov, hget hp id = .nest e pk0 eb r xs ov ∧ pk0 = pk ∧ ∃ e pk eb r xs ov, hget hp' id = .nest e pk eb r xs ov := by
  unfold focus at h
  have hg0 : ∃ e pk eb r xs ov, hget hp id = .nest e pk eb r xs ov := by
    unfold absorb at h
    split at h
    · rename_i hg; exact ⟨_, _, _, _, _, _, hg⟩
    · rename_i hg; exact ⟨_, _, _, _, _, _, hg⟩
    · rename_i hg; exact ⟨_, _, _, _, _, _, hg⟩
    · exact h.elim
  obtain ⟨e0, pk0, eb0, r0, xs0, ov0, hg0⟩ := hg0
  obtain ⟨β1, hp1, h, hH1, hE1⟩ := absorb_run hH h
  split at h
  · rename_i e pk eb r xs hg
    obtain ⟨hi, hK⟩ := h
    have hid : id < hp1.length := hget_lt hg (by simp)
    have hO := hH1.obj id hid
    unfold ObjRep at hO
    rw [hg] at hO
    obtain ⟨g, cap, cells, c0, c1, c2, c3, c4, c5, hall⟩ := hO
    have hpk : pk0 = pk := by
      have := hE1.obj id (hget_lt hg0 (by simp))
      rw [hg0, hg] at this
      exact this.2.1.symm
    have hlen : (hset hp1 id (.nest e pk eb r xs (some (i, .own hp1.length))) ++ [Obj.row eb r (xs.getD i (0, [])).2]).length = hp1.length + 1 := by simp [hset_len]
    have hnew : hget (hset hp1 id (.nest e pk eb r xs (some (i, .own hp1.length))) ++ [Obj.row eb r (xs.getD i (0, [])).2]) hp1.length = Obj.row eb r (xs.getD i (0, [])).2 := by
      have := hget_append_new (hset hp1 id (.nest e pk eb r xs (some (i, .own hp1.length)))) (Obj.row eb r (xs.getD i (0, [])).2)
      rwa [hset_len] at this
    have hself : hget (hset hp1 id (.nest e pk eb r xs (some (i, .own hp1.length))) ++ [Obj.row eb r (xs.getD i (0, [])).2]) id = .nest e pk eb r xs (some (i, .own hp1.length)) := by
      rw [hget_append_lt _ _ _ (by rw [hset_len]; exact hid), hget_hset_self _ _ _ hid]
    have hoth : ∀ j, j < hp1.length → j ≠ id → hget (hset hp1 id (.nest e pk eb r xs (some (i, .own hp1.length))) ++ [Obj.row eb r (xs.getD i (0, [])).2]) j = hget hp1 j := fun j hj hne => by
      rw [hget_append_lt _ _ _ (by rw [hset_len]; exact hj), hget_hset_ne _ _ _ _ hne]
    have hfi : ∀ j, j ≤ xs.length → fp hp1 id j := fun j hj => by
      unfold fp fpO
      rw [hg]
      exact ⟨hj, fun p hp => by cases hp⟩
    have hbn : ∀ j, j ≠ hp1.length → (bnewF β1 hp1.length (fp1 (β1.f id (i + 1)))).f j = β1.f j := fun j hj => bnewF_ne _ _ hj
    obtain ⟨h1, h2⟩ := hH1.step (w' := w) (β' := bnewF β1 hp1.length (fp1 (β1.f id (i + 1)))) (hp' := hset hp1 id (.nest e pk eb r xs (some (i, .own hp1.length))) ++ [Obj.row eb r (xs.getD i (0, [])).2]) (fun j => j = id ∨ j = hp1.length) rfl rfl rfl (Nat.le_refl _) (by rw [hlen]; omega) rfl (fun _ _ _ => rfl)
      (fun j hn hl => by
        have hjl := live_lt hl
        rw [hlen] at hjl
        have hj : j ≠ id ∧ j ≠ hp1.length := ⟨fun e => hn (.inl e), fun e => hn (.inr e)⟩
        exact ⟨hoth j (by omega) hj.1, hbn j hj.2, fun _ _ _ _ _ => rfl⟩)
      (fun j jj g c hn hf hb => by
        rcases hn with rfl | rfl
        · unfold fp at hf
          rw [hself] at hf
          rw [hbn j (by omega)] at hb
          exact .inr ⟨j, jj, c, hfi jj hf.1, hb, fun hn => absurd (.inl rfl) hn⟩
        · unfold fp at hf
          rw [hnew] at hf
          have hf : jj = 0 := hf
          subst hf
          rw [bnewF_at] at hb
          exact .inr ⟨id, i + 1, c, hfi _ (by omega), hb, fun hn => absurd (.inl rfl) hn⟩)
      (fun j j' jj jj' g c c' hn hn' hf hf' hb hb' => by
        have key : ∀ (jj jj' : Nat) (c c' : Nat), fp (hset hp1 id (.nest e pk eb r xs (some (i, .own hp1.length))) ++ [Obj.row eb r (xs.getD i (0, [])).2]) id jj → fp (hset hp1 id (.nest e pk eb r xs (some (i, .own hp1.length))) ++ [Obj.row eb r (xs.getD i (0, [])).2]) hp1.length jj' → (bnewF β1 hp1.length (fp1 (β1.f id (i + 1)))).f id jj = some (g, c) → (bnewF β1 hp1.length (fp1 (β1.f id (i + 1)))).f hp1.length jj' = some (g, c') → False := by
          intro jj jj' c c' hf hf' hb hb'
          unfold fp at hf hf'
          rw [hself] at hf
          rw [hnew] at hf'
          have hf' : jj' = 0 := hf'
          subst hf'
          rw [bnewF_at] at hb'
          rw [hbn id (by omega)] at hb
          have := (hH1.diss id id jj (i + 1) g c c' (hfi jj hf.1) (hfi _ (by omega)) hb hb').2
          exact hf.2 _ rfl this
        rcases hn with hn | hn <;> rcases hn' with hn' | hn'
        · subst hn hn'
          unfold fp at hf hf'
          rw [hself] at hf hf'
          rw [hbn _ (by omega)] at hb hb'
          exact ⟨rfl, (hH1.diss _ _ jj jj' g c c' (hfi jj hf.1) (hfi jj' hf'.1) hb hb').2⟩
        · rw [hn] at hf hb
          rw [hn'] at hf' hb'
          exact (key jj jj' c c' hf hf' hb hb').elim
        · rw [hn] at hf hb
          rw [hn'] at hf' hb'
          exact (key jj' jj c' c hf' hf hb' hb).elim
        · subst hn hn'
          unfold fp at hf hf'
          rw [hnew] at hf hf'
          have hf : jj = 0 := hf
          have hf' : jj' = 0 := hf'
          exact ⟨rfl, hf.trans hf'.symm⟩)
      (fun j hj => by
        by_cases e1 : j = id
        · subst e1
          refine .inr fun hs => ?_
          rw [hself, hg]
          exact ⟨rfl, rfl, rfl, rfl, by show (bnewF _ _ _).f j 0 = β1.f j 0; rw [hbn j (by omega)], rfl⟩
        · exact .inl ⟨hoth j hj e1, hbn j (by omega)⟩)
    have hx := List.getElem?_eq_getElem hi
    obtain ⟨k1, u, k2, k3, k4⟩ := hall i _ hx
    obtain ⟨a1, a2⟩ := k4 (fun q hq => by simp at hq)
    have hxd : xs.getD i (0, []) = xs[i] := by rw [List.getD_eq_getElem?_getD, hx]; rfl
    have hou : (CV.own hp1.length).rep w (bnewF β1 hp1.length (fp1 (β1.f id (i + 1)))) (hset hp1 id (.nest e pk eb r xs (some (i, .own hp1.length))) ++ [Obj.row eb r (xs.getD i (0, [])).2]) u := by
      refine ⟨by rw [hlen]; omega, ?_⟩
      rw [hnew]
      show u = ownVal ((bnewF β1 hp1.length (fp1 (β1.f id (i + 1)))).f hp1.length 0) _
      rw [bnewF_at, hxd]
      exact a1
    refine ⟨pk, _, hp1.length, _, _, hK, h2 ?_, hE1.trans h1, g, cap, cells, e, u, by rw [hbn id (by omega)]; exact c0, c1, fun k hk => ?_, k2, hou, e0, pk0, eb0, r0, xs0, ov0, hg0, hpk, _, _, _, _, _, _, hself⟩
    · intro j hj hjl
      rcases hj with rfl | rfl
      · unfold ObjRep
        rw [hself, hbn j (by omega)]
        refine ⟨g, cap, cells, c0, c1, c2, c3, c4, (fun q hq => by injection hq with hq; subst hq; exact hi), fun jj x hx => ?_⟩
        obtain ⟨k1, v, k2', k3, k4⟩ := hall jj x hx
        refine ⟨k1, v, k2', fun q hq e1 => ?_, fun hn => ?_⟩
        · injection hq with hq
          subst hq
          have e1 : i = jj := e1
          subst e1
          rw [k2] at k2'
          injection k2' with k2'
          subst k2'
          exact hou
        · obtain ⟨b1, b2⟩ := k4 (fun q hq => by simp at hq)
          exact ⟨b1, b2.mono h1.stays (fun _ _ _ => rfl)⟩
      · unfold ObjRep
        rw [hnew]
        show rowObj w _ ((bnewF β1 hp1.length (fp1 (β1.f id (i + 1)))).f hp1.length 0) _ _ _
        rw [bnewF_at]
        have a3 := a2.mono h1.stays (fun _ _ _ => rfl)
        rw [← hxd] at a3
        exact a3
    · have := k1 k hk
      rw [hxd]
      exact this
  · exact h.elim
end
end Go.AX
