/- The abstract executor, part 7: literals, cuts, conversions. -/
import Derived.Test.YtcfphoffpbncmaaAXA6
set_option linter.unusedVariables false
set_option linter.unusedSimpArgs false
namespace Go.AX
section
variable {P : Program} {E : Env} {w : World} {β : Bs} {st : St} {a : Act}
theorem aparts_run (hS : SRep w β st a) : ∀ (l : List (Nat × Operand)) (j : Nat) (hp : List Obj), HRep w β hp → Evo w β st.hp w β hp → ∀ {K : List (List CV) → List Obj → Prop}, aparts st j hp l K →
    ∃ css hp', K css hp' ∧ HRep w β hp' ∧ Evo w β hp w β hp' ∧ repL (fun (cs : List CV) (p : Nat × Value) => ∃ m : List Value, repL (CV.rep w β hp') cs m ∧ (p.2 = .agg m.toArray ∨ m = [p.2])) css (l.map fun p => (p.1, a.eval p.2)) ∧
      ∀ (k : Nat) (p : Nat × Value), (l.map fun p => (p.1, a.eval p.2))[k]? = some p → p.1 = j + k
  | [], j, hp, hH, hE, K, h => ⟨[], hp, h, hH, Evo.refl _ _ _, trivial, fun k p hk => by simp at hk⟩
  | (i, x) :: l, j, hp, hH, hE, K, h => by
    unfold aparts at h
    split at h
    · rename_i hij
      subst hij
      split at h
      · rename_i sv hev
        have hr := hE.av (ev_rep hS x)
        rw [hev] at hr
        obtain ⟨m, hm, hmv⟩ : ∃ m : List Value, repL (CV.rep w β hp) sv.list m ∧ (a.eval x = .agg m.toArray ∨ m = [a.eval x]) := by
          cases sv with
          | c y => exact ⟨[a.eval x], ⟨hr, trivial⟩, .inr rfl⟩
          | agg cs => obtain ⟨l, hv, hl⟩ := hr; exact ⟨l, hl, .inl hv⟩
        obtain ⟨f1, f2, f3⟩ := frozs_rep hp sv.list m hH hm
        obtain ⟨css, hp', k1, k2, k3, k4, k5⟩ := aparts_run hS l (i + 1) (frozs hp sv.list).2 f2 (hE.trans f1) (K := fun m hp => K ((frozs _ sv.list).1 :: m) hp) h
        refine ⟨_, hp', k1, k2, f1.trans k3, ⟨⟨m, k3.cvs f3, hmv⟩, k4⟩, fun k p hk => ?_⟩
        cases k with
        | zero => simp at hk; subst hk; rfl
        | succ k => have := k5 k p (by simpa using hk); omega
      · exact h.elim
    · exact h.elim
theorem rowsOf_rep {hp : List Obj} {r : Row} : ∀ (css : List (List CV)) (xs : List r.den) (pv : List (Nat × Value)), rowsOf r css = some xs → repL (fun (cs : List CV) (p : Nat × Value) => ∃ m : List Value, repL (CV.rep w β hp) cs m ∧ (p.2 = .agg m.toArray ∨ m = [p.2])) css pv →
    xs.length = pv.length ∧ (∀ p ∈ pv, p.2.cells.size = r.size) ∧ ∀ (k : Nat) (x : r.den), xs[k]? = some x → ∃ p, pv[k]? = some p ∧ r.rep w (imm w β hp) x p.2.cells.toList
  | [], xs, [], h, _ => by
    injection h with h
    subst h
    exact ⟨rfl, fun p hp => by simp at hp, fun k x hk => by simp at hk⟩
  | cs :: css, xs, p :: pv, h, hr => by
    unfold rowsOf at h
    split at h
    · rename_i b m hb hm
      injection h with h
      subst h
      obtain ⟨l, hl, hpv⟩ := hr.1
      have hrow := r.ofCvs_rep _ _ _ hb hl
      have hlen := r.rep_len _ _ hrow
      have hone := r.rep_one _ _ hrow
      have hcells : p.2.cells.toList = l := by
        rcases hpv with hpv | hpv
        · rw [hpv]; rfl
        · have h1 := hone p.2 (by rw [hpv]; simp)
          rw [hpv]
          cases hq : p.2 <;> first | rfl | (rw [hq] at h1; cases h1)
      obtain ⟨i1, i2, i3⟩ := rowsOf_rep css m pv hm hr.2
      refine ⟨by simp [i1], fun q hq => ?_, fun k x hk => ?_⟩
      · rcases List.mem_cons.1 hq with rfl | hq
        · rw [← hlen, ← hcells, Array.length_toList]
        · exact i2 q hq
      · cases k with
        | zero => simp at hk; subst hk; exact ⟨p, rfl, by rw [hcells]; exact hrow⟩
        | succ k => exact i3 k x (by simpa using hk)
    · cases h
  | [], _, _ :: _, _, hr => hr.elim
  | _ :: _, _, [], _, hr => hr.elim
theorem buildSlice_run (hE : EnvOk P E) (hS : SRep w β st a) {t : TypeId} {e : TypeId} {r : Row} {bytes len : Nat} (ht : E.slice t = some (e, r, bytes)) {parts : Array (Nat × Operand)} {K : AV → List Obj → Prop}
    (h : aparts st 0 st.hp parts.toList fun cs hp => match rowsOf r cs with
      | some xs => if xs.length = len ∧ len * r.size ≤ 16777216 then K (.cv (.own hp.length)) (hp ++ [.row e r xs]) else False
      | none => False) :
    ∃ v av w' β' hp', K av hp' ∧ HRep w' β' hp' ∧ Evo w β st.hp w' β' hp' ∧ av.rep w' β' hp' v ∧ (Instr.buildSlice t len (parts.map fun (i, x) => (i, a.eval x))).run P w = .ok v w' := by
  obtain ⟨hu, i, z, hi, hsz, hby, hz, hzs, hb0⟩ := hE.slice t e r bytes ht
  obtain ⟨css, hp', k1, k2, k3, k4, k5⟩ := aparts_run hS parts.toList 0 st.hp hS.hp (Evo.refl _ _ _) h
  split at k1
  · rename_i xs hx
    split at k1
    · rename_i hl
      obtain ⟨r1, r2, r3⟩ := rowsOf_rep css xs _ hx k4
      have hlen : (parts.toList.map fun p => (p.1, a.eval p.2)).length = len := by rw [← r1]; exact hl.1
      have hfill := fill_all r.size (parts.toList.map fun p => (p.1, a.eval p.2)) 0 ((Array.range (len * r.size)).map fun i => (if len * r.size = 0 then #[] else z.cells)[i % (if len * r.size = 0 then #[] else z.cells).size]!) (fun k p hk => by have := k5 k p hk; omega) r2 (by rw [Nat.zero_add, hlen]; simp)
      have hls : ∀ l ∈ (parts.toList.map fun p => (p.1, a.eval p.2)).map (fun p => p.2.cells.toList), l.length = r.size := by
        intro l hl'
        obtain ⟨p, hp, rfl⟩ := List.mem_map.1 hl'
        rw [Array.length_toList]
        exact r2 p hp
      have hcells : (List.take (0 * r.size) (((Array.range (len * r.size)).map fun i => (if len * r.size = 0 then #[] else z.cells)[i % (if len * r.size = 0 then #[] else z.cells).size]!).toList) ++ ((parts.toList.map fun p => (p.1, a.eval p.2)).map fun p => p.2.cells.toList).flatten ++
          List.drop ((0 + (parts.toList.map fun p => (p.1, a.eval p.2)).length) * r.size) (((Array.range (len * r.size)).map fun i => (if len * r.size = 0 then #[] else z.cells)[i % (if len * r.size = 0 then #[] else z.cells).size]!).toList)).toArray = (((parts.toList.map fun p => (p.1, a.eval p.2)).map fun p => p.2.cells.toList).flatten).toArray := by
        rw [Nat.zero_mul, List.take_zero, List.nil_append, Nat.zero_add, hlen, List.drop_eq_nil_of_le (by simp), List.append_nil]
      rw [hcells] at hfill
      have hflen := flat_len r.size _ hls
      simp only [List.length_map] at hflen
      have hpl : parts.toList.length = len := by simpa using hlen
      have hrun : (Instr.buildSlice t len (parts.map fun (i, x) => (i, a.eval x))).run P w = .ok (.slice (some ⟨w.heap.size, 0, none⟩) len len) (w.alloc (.cells (((parts.toList.map fun p => (p.1, a.eval p.2)).map fun p => p.2.cells.toList).flatten).toArray e)) := by
        unfold Instr.buildSlice
        have hm : (parts.map fun (x : Nat × Operand) => (x.1, a.eval x.2)).toList = parts.toList.map fun p => (p.1, a.eval p.2) := by simp
        simp only [Sem.run_bind, run_underlying hu, Result.andThen_ok, run_sizeOf hi, hsz]
        rw [if_neg (by omega)]
        by_cases h0 : len * r.size = 0
        · simp only [h0, if_true] at hfill ⊢
          simp only [Sem.run_bind, Sem.run_pure, Result.andThen_ok]
          rw [hm, hfill]
          simp [newRow]
        · simp only [h0, if_false] at hfill ⊢
          simp only [Sem.run_bind, run_zeroValue hi hz, Result.andThen_ok, Sem.run_pure]
          rw [hm, hfill]
          simp [newRow]
      obtain ⟨e1, e2⟩ := k2.new (w' := w.alloc (.cells (((parts.toList.map fun p => (p.1, a.eval p.2)).map fun p => p.2.cells.toList).flatten).toArray e)) (.row e r xs) (some (w.heap.size, len)) rfl rfl rfl (by simp) (fun b hb => alloc_old w _ b hb) (fun g c hg => by injection hg with hg; injection hg with hg hg'; omega)
      refine ⟨_, _, _, _, _, k1, e2 ?_, k3.trans e1, ⟨by simp, ?_⟩, hrun⟩
      · unfold ObjRep
        rw [hget_append_new, bnew_at]
        refine .inr ⟨_, len, _, rfl, alloc_at w _, by simp only [List.size_toArray, hflen, hpl], by omega, ?_, fun k x hk => ?_⟩
        · have := r.size_pos
          have : len ≤ len * r.size := Nat.le_mul_of_pos_right _ this
          simp only [maxLen]
          omega
        · obtain ⟨p, hp, hrow⟩ := r3 k x hk
          have := flat_get r.size _ hls k p.2.cells.toList (by simp only [List.getElem?_map, hp]; rfl)
          rw [List.toList_toArray, this]
          exact Row.rep_mono e1.stays _ _ _ hrow
      · rw [hget_append_new, bnew_at]
        show _ = Value.slice _ _ _
        rw [hl.1]
    · exact k1.elim
  · exact k1.elim
end
end Go.AX
