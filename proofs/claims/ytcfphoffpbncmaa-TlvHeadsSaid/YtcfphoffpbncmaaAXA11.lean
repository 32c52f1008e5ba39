/- The abstract executor, part 11: regions, code, functions: what 'awp' says holds. -/
import Derived.Test.YtcfphoffpbncmaaAXA10
set_option linter.unusedVariables false
set_option linter.unusedSimpArgs false
namespace Go.AX
open Go.RowKit
section
variable {P : Program} {E : Env}
theorem put_getD (a : Act) (d : Option Tmp) (v : Value) (t : Tmp) (ht : t < a.tmps.size) : (a.put d v).tmps.getD t undef = if d = some t then v else a.tmps.getD t undef := by
  cases d with
  | none => simp [Act.put]
  | some d =>
    simp only [Act.put, Option.some.injEq]
    by_cases h : d = t
    · subst h
      simp [ht]
    · simp [h, Array.getElem?_setIfInBounds_ne h]
theorem put_keep (a : Act) (d : Option Tmp) (v : Value) (t : Tmp) (h : d ≠ some t) : (a.put d v).tmps.getD t undef = a.tmps.getD t undef := by
  cases d with
  | none => rfl
  | some d =>
    have : d ≠ t := fun e => h (by rw [e])
    simp [Act.put, Array.getD_eq_getD_getElem?, Array.getElem?_setIfInBounds_ne this]
theorem put_size (a : Act) (d : Option Tmp) (v : Value) : (a.put d v).tmps.size = a.tmps.size := by cases d <;> simp [Act.put]
theorem put_defers' (a : Act) (d : Option Tmp) (v : Value) : (a.put d v).defers = a.defers := by cases d <;> rfl
theorem SRep.put {w : World} {β : Bs} {st : St} {a : Act} (hS : SRep w β st a) {w' : World} {β' : Bs} {hp' : List Obj} {av : AV} {v : Value} (hH : HRep w' β' hp') {sx : Prop} (hE : EvoS sx w β st.hp w' β' hp') (hr : av.rep w' β' hp' v) (d : Option Tmp) :
    SRep w' β' (st.put hp' d av) (a.put d v) := by
  refine ⟨by cases d <;> exact hH, by rw [put_size]; cases d <;> exact hS.size, fun t ht => ?_, by rw [put_defers']; exact hS.defers⟩
  have ht' : t < st.n := by cases d <;> exact ht
  rw [put_getD a d v t (by rw [hS.size]; exact ht')]
  cases d with
  | none =>
    rw [if_neg (by simp)]
    exact hE.av (hS.sl t ht')
  | some d =>
    by_cases h : d = t
    · subst h
      rw [if_pos rfl]
      show ((if d = d then av else st.sl d) : AV).rep w' β' hp' v
      rw [if_pos rfl]
      exact hr
    · rw [if_neg (by simpa using h)]
      show ((if t = d then av else st.sl t) : AV).rep w' β' hp' _
      rw [if_neg (fun e => h e.symm)]
      exact hE.av (hS.sl t ht')
theorem SRep.refine_ {w : World} {β : Bs} {st : St} {a : Act} (hS : SRep w β st a) {d : Nat} {b : Bool} (h : st.get d = .s (.c (.v (.bool b)))) : SRep w β { st with sl := upd st.sl d (.b b) } a ∧ a.tmps.getD d undef = .bool b := by
  have hg := get_rep hS d
  rw [h] at hg
  refine ⟨⟨hS.hp, hS.size, fun t ht => ?_, hS.defers⟩, hg.1⟩
  show ((if t = d then .b b else st.sl t) : AV).rep w β st.hp _
  by_cases e : t = d
  · subst e
    rw [if_pos rfl]
    exact hg
  · rw [if_neg e]
    exact hS.sl t ht
theorem aops_run (hE : EnvOk P E) {spec : Sp} (hsp : SpsOk P spec) (all : Array Oper) (Q : Exit → Act → World → Prop) : ∀ (l : List Oper) (st : St) (a : Act) (w : World) (β : Bs) {K : St → Prop}, SRep w β st a → aops E spec all l st K →
    (∀ st' a' w' β', st'.n = st.n → (∀ t, (∀ o, o ∈ l → o.dst ≠ some t) → a'.tmps.getD t undef = a.tmps.getD t undef) → K st' → SRep w' β' st' a' → Evo w β st.hp w' β' st'.hp → Q .normal a' w') → wpList P all Q l a w
  | [], st, a, w, β, K, hS, h, next => next _ _ _ _ rfl (fun _ _ => rfl) h hS (Evo.refl _ _ _)
  | o :: rest, st, a, w, β, K, hS, h, next => by
    unfold aops at h
    simp only [St.next_eq] at h
    have pn : ∀ (s : St) (hp : List Obj) (d : Option Tmp) (v : AV), (s.put hp d v).n = s.n := fun s hp d v => by cases d <;> rfl
    have ph : ∀ (s : St) (hp : List Obj) (d : Option Tmp) (v : AV), (s.put hp d v).hp = hp := fun s hp d v => by cases d <;> rfl
    split at h
    · rename_i hg
      unfold wpList
      rw [if_pos (by simp [Region.wanted, hg])]
      refine .inl (aop_run hE hsp hS h fun v av w' β' hp' hk hH hev hr => ?_)
      refine aops_run hE hsp all Q rest _ _ _ _ (hS.put hH hev hr o.dst) hk fun st' a' w'' β'' hn hkp k hS' he => next st' a' w'' β'' (hn.trans (pn _ _ _ _)) (fun t ht => (hkp t fun o ho => ht o (by simp [ho])).trans (put_keep _ _ _ _ (ht _ (by simp)))) k hS' ?_
      rw [ph] at he
      exact hev.trans he
    · rename_i j want hg
      split at h
      · rename_i d hd
        split at h
        · rename_i b hb
          obtain ⟨r1, r2⟩ := hS.refine_ hb
          have hy : yielded all a.tmps j = some b := by
            obtain ⟨dd, hdd⟩ : ∃ dd, a.tmps[d]? = some dd := by
              cases hq : a.tmps[d]? with
              | some dd => exact ⟨dd, rfl⟩
              | none =>
                simp [Array.getD_eq_getD_getElem?, hq] at r2
                cases r2
            have : dd = .bool b := by simpa [Array.getD_eq_getD_getElem?, hdd] using r2
            subst this
            unfold yielded
            simp [hd, hdd]
          unfold wpList
          by_cases hbw : b = want
          · subst hbw
            rw [if_pos (by simp [Region.wanted, hg, hy])]
            refine .inl (aop_run hE hsp r1 (h.1 rfl) fun v av w' β' hp' hk hH hev hr => ?_)
            refine aops_run hE hsp all Q rest _ _ _ _ (r1.put hH hev hr o.dst) hk fun st' a' w'' β'' hn hkp k hS' he => next st' a' w'' β'' (hn.trans (pn _ _ _ _)) (fun t ht => (hkp t fun o ho => ht o (by simp [ho])).trans (put_keep _ _ _ _ (ht _ (by simp)))) k hS' ?_
            rw [ph] at he
            exact hev.trans he
          · have hb' : b = !want := by cases b <;> cases want <;> simp_all
            rw [if_neg (by simp [Region.wanted, hg, hy, hbw])]
            have h2 := h.2 hb'
            rw [← hb'] at h2
            refine aops_run hE hsp all Q rest _ _ _ _ (r1.put r1.hp (Evo.refl _ _ _) (av := .tup []) (v := undef) ⟨[], rfl, trivial⟩ o.dst) h2 fun st' a' w'' β'' hn hkp k hS' he => next st' a' w'' β'' (hn.trans (pn _ _ _ _)) (fun t ht => (hkp t fun o ho => ht o (by simp [ho])).trans (put_keep _ _ _ _ (ht _ (by simp)))) k hS' ?_
            rw [ph] at he
            exact he
        · rename_i hb
          have r2 := get_rep hS d
          rw [hb] at r2
          have hy : yielded all a.tmps j = none := by
            obtain ⟨l, hl, hr⟩ := r2
            cases l with
            | cons _ _ => exact hr.elim
            | nil =>
              unfold yielded
              simp only [hd, Option.bind_some]
              cases hq : a.tmps[d]? with
              | none => rfl
              | some dd =>
                have : dd = .tuple #[] := by simpa [Array.getD_eq_getD_getElem?, hq] using hl
                subst this
                rfl
          unfold wpList
          rw [if_neg (by simp [Region.wanted, hg, hy])]
          refine aops_run hE hsp all Q rest _ _ _ _ (hS.put hS.hp (Evo.refl _ _ _) (av := .tup []) (v := undef) ⟨[], rfl, trivial⟩ o.dst) h fun st' a' w'' β'' hn hkp k hS' he => next st' a' w'' β'' (hn.trans (pn _ _ _ _)) (fun t ht => (hkp t fun o ho => ht o (by simp [ho])).trans (put_keep _ _ _ _ (ht _ (by simp)))) k hS' ?_
          rw [ph] at he
          exact he
        · exact h.elim
      · exact h.elim
end
end Go.AX
