/- The abstract executor, part 15: every order of a region ends as the text's order does. -/
import Derived.Test.YtcfphoffpbncmaaAXA14
set_option linter.unusedVariables false
set_option linter.unusedSimpArgs false
namespace Go.AX
open Go.RowKit
section
variable {P : Program} {E : Env} {spec : Sp}
theorem mask_fold {acc : List Nat} {i : Nat} : ∀ (es : List Edge) (s : Nat), (es.foldl (fun s e => if Region.binds .any e = true then s ||| 2 ^ e.on ||| acc.getD e.on 0 else s) s).testBit i = true →
    s.testBit i = true ∨ ∃ e, e ∈ es ∧ Region.binds .any e = true ∧ (i = e.on ∨ (acc.getD e.on 0).testBit i = true)
  | [], s, h => .inl h
  | e :: es, s, h => by
    rw [List.foldl_cons] at h
    rcases mask_fold es _ h with h | ⟨e', h1, h2, h3⟩
    · split at h
      · rename_i hb
        rw [Nat.testBit_or, Nat.testBit_or, Nat.testBit_two_pow] at h
        simp only [Bool.or_eq_true, decide_eq_true_eq] at h
        rcases h with (h | h) | h
        · exact .inl h
        · exact .inr ⟨e, by simp, hb, .inl h.symm⟩
        · exact .inr ⟨e, by simp, hb, .inr h⟩
      · exact .inl h
    · exact .inr ⟨e', by simp [h1], h2, h3⟩
def MaskGood (L : Nat → Prop) (full : List Oper) (acc : List Nat) : Prop :=
  ∀ j o, full[j]? = some o → j < acc.length → (∀ e, e ∈ o.after.toList → Region.binds .any e = true → L e.on) → ∀ i, (acc.getD j 0).testBit i = true → L i
theorem masks_good {L : Nat → Prop} {full : List Oper} (hcl : ∀ j o, L j → full[j]? = some o → ∀ e, e ∈ o.after.toList → Region.binds .any e = true → L e.on) :
    ∀ (l pre : List Oper) (acc : List Nat), full = pre ++ l → acc.length = pre.length → MaskGood L full acc → MaskGood L full (masks l acc) ∧ (masks l acc).length = full.length
  | [], pre, acc, hf, hl, h => ⟨h, by rw [hf]; simpa [masks] using hl⟩
  | o :: l, pre, acc, hf, hl, h => by
    unfold masks
    refine masks_good hcl l (pre ++ [o]) _ (by simp [hf]) (by simp [hl]) ?_
    intro j o' ho' hj hp i hi
    by_cases hja : j < acc.length
    · rw [List.getD_eq_getElem?_getD, List.getElem?_append_left hja, ← List.getD_eq_getElem?_getD] at hi
      exact h j o' ho' hja hp i hi
    · have hje : j = acc.length := by simp at hj; omega
      subst hje
      have hoo : o' = o := by
        rw [hf, hl, List.getElem?_append_right (Nat.le_refl _)] at ho'
        simpa using ho'.symm
      subst hoo
      rw [List.getD_eq_getElem?_getD, List.getElem?_append_right (Nat.le_refl _)] at hi
      simp only [Nat.sub_self, List.getElem?_cons_zero, Option.getD_some] at hi
      rcases mask_fold _ _ hi with h0 | ⟨e, he, hb, h1⟩
      · simp at h0
      · have hL := hp e he hb
        rcases h1 with h1 | h1
        · rw [h1]; exact hL
        · have hlt : e.on < acc.length := by
            apply Classical.byContradiction
            intro hn
            rw [List.getD_eq_getElem?_getD, List.getElem?_eq_none (by omega)] at h1
            simp at h1
          have : e.on < full.length := by rw [hf]; simp; omega
          exact h e.on _ (List.getElem?_eq_getElem this) hlt (hcl e.on _ hL (List.getElem?_eq_getElem this)) i h1
theorem drawOk_spec {ld : List Nat} {all : Array Oper} (h : drawOk E ld all = true) {j : Nat} {y : Oper} (hj : all[j]? = some y) :
    (∀ e, e ∈ y.after.toList → Region.binds .any e = true → e.on < j) ∧ ∀ i x, i < j → all[i]? = some x → confl all (opCls E ld i x.op) x (opCls E ld j y.op) y = true → ((masks all.toList []).getD j 0).testBit i = true := by
  unfold drawOk at h
  simp only [List.all_eq_true, List.mem_range] at h
  have h1 := h j (Array.getElem?_eq_some_iff.1 hj).1
  rw [hj] at h1
  simp only [Bool.and_eq_true, List.all_eq_true, List.mem_range, Bool.or_eq_true, Bool.not_eq_true', decide_eq_true_eq] at h1
  refine ⟨fun e he hb => ?_, fun i x hi hx hc => ?_⟩
  · rcases h1.1 e he with h2 | h2
    · rw [hb] at h2; cases h2
    · exact h2
  · have h2 := h1.2 i hi
    rw [hx] at h2
    simp only [Bool.or_eq_true, Bool.not_eq_true'] at h2
    rcases h2 with h2 | h2
    · rw [hc] at h2; cases h2
    · exact h2
structure Jn (E : Env) (ld : List Nat) (all : Array Oper) (S : Nat → St) (listed : Array Bool) (cur : St) : Prop where
  size : listed.size = all.size
  n : cur.n = (S 0).n
  closed : ∀ j o, listed.getD j false = true → all[j]? = some o → ∀ e, e ∈ o.after.toList → Region.binds .any e = true → listed.getD e.on false = true
  slot : ∀ t, ∃ m, m ≤ all.size ∧ cur.sl t = (S m).sl t ∧ ∀ j o, all[j]? = some o → o.dst = some t → (listed.getD j false = true ↔ j < m)
  heap : ∃ m, m ≤ all.size ∧ cur.hp = (S m).hp ∧ ∀ j o, all[j]? = some o → opCls E ld j o.op = 2 → (listed.getD j false = true ↔ j < m)
section
variable {n0 : Nat} {ld : List Nat} {all : Array Oper} {S : Nat → St}
theorem frame_sl (hst : ∀ k o, all[k]? = some o → StepA E spec all (opCls E ld k o.op) (n0 + zat all.toList k) o (S k) (S (k + 1))) {t m : Nat} : ∀ d, m + d ≤ all.size → (∀ j o, m ≤ j → j < m + d → all[j]? = some o → o.dst ≠ some t) → (S (m + d)).sl t = (S m).sl t
  | 0, _, _ => rfl
  | d + 1, hm, h => by
    have hlt : m + d < all.size := by omega
    rw [← frame_sl hst d (by omega) fun j o h1 h2 => h j o h1 (by omega)]
    exact (hst (m + d) _ (Array.getElem?_eq_getElem hlt)).slot (h (m + d) _ (by omega) (by omega) (Array.getElem?_eq_getElem hlt))
theorem frame_hp (hst : ∀ k o, all[k]? = some o → StepA E spec all (opCls E ld k o.op) (n0 + zat all.toList k) o (S k) (S (k + 1))) {m : Nat} : ∀ d, m + d ≤ all.size → (∀ j o, m ≤ j → j < m + d → all[j]? = some o → opCls E ld j o.op ≠ 2) → (S (m + d)).hp = (S m).hp
  | 0, _, _ => rfl
  | d + 1, hm, h => by
    have hlt : m + d < all.size := by omega
    rw [← frame_hp hst d (by omega) fun j o h1 h2 => h j o h1 (by omega)]
    exact (hst (m + d) _ (Array.getElem?_eq_getElem hlt)).heap (h (m + d) _ (by omega) (by omega) (Array.getElem?_eq_getElem hlt))
theorem frame_n (hst : ∀ k o, all[k]? = some o → StepA E spec all (opCls E ld k o.op) (n0 + zat all.toList k) o (S k) (S (k + 1))) : ∀ d, d ≤ all.size → (S d).n = (S 0).n
  | 0, _ => rfl
  | d + 1, hm => by
    rw [← frame_n hst d (by omega)]
    exact (hst d _ (Array.getElem?_eq_getElem (by omega : d < all.size))).n
theorem confl_slot {ca cb : Nat} {x y : Oper} {t : Nat} (h : (x.dst = some t ∧ (t ∈ y.looksAt all ∨ y.dst = some t)) ∨ (y.dst = some t ∧ (t ∈ x.looksAt all ∨ x.dst = some t))) : confl all ca x cb y = true := by
  unfold confl
  rcases h with ⟨h1, h2 | h2⟩ | ⟨h1, h2 | h2⟩ <;> simp [h1, h2]
theorem confl_heap {ca cb : Nat} {x y : Oper} (h : (ca ≠ 0 ∧ cb = 2) ∨ (ca = 2 ∧ cb ≠ 0)) : confl all ca x cb y = true := by
  unfold confl
  rcases h with ⟨h1, h2⟩ | ⟨h1, h2⟩ <;> simp [h1, h2]
variable {listed : Array Bool} {cur : St}
/-- Of an operation that may come up now: what conflicts with it stands where the text has it. -/
theorem Jn.order (hok : drawOk E ld all = true) (J : Jn E ld all S listed cur) {i : Nat} {o : Oper} (hi : all[i]? = some o) (hun : listed.getD i false = false) (hed : ∀ e, e ∈ o.after.toList → Region.binds .any e = true → listed.getD e.on false = true)
    {j : Nat} {x : Oper} (hj : all[j]? = some x) (hne : j ≠ i) (hc : confl all (opCls E ld j x.op) x (opCls E ld i o.op) o = true) (hc' : confl all (opCls E ld i o.op) o (opCls E ld j x.op) x = true) : (listed.getD j false = true ↔ j < i) := by
  have hcl : ∀ j o, listed.getD j false = true → all.toList[j]? = some o → ∀ e, e ∈ o.after.toList → Region.binds .any e = true → listed.getD e.on false = true := fun j o h1 h2 => J.closed j o h1 (by rw [← Array.getElem?_toList]; exact h2)
  obtain ⟨g1, g2⟩ := masks_good hcl all.toList [] [] rfl rfl (fun j o _ h => by simp at h)
  have hlen : ∀ k, k < all.size → k < (masks all.toList []).length := fun k hk => by rw [g2]; simpa using hk
  have hil := (Array.getElem?_eq_some_iff.1 hi).1
  have hjl := (Array.getElem?_eq_some_iff.1 hj).1
  constructor
  · intro hlj
    apply Classical.byContradiction
    intro hn
    have hij : i < j := by omega
    have hb := (drawOk_spec hok hj).2 i o hij hi hc'
    have : listed.getD i false = true := g1 j x (by simpa using hj) (hlen j hjl) (hcl j x hlj (by simpa using hj)) i hb
    rw [hun] at this
    cases this
  · intro hji
    have hb := (drawOk_spec hok hi).2 j x hji hj hc
    exact g1 i o (by simpa using hi) (hlen i hil) hed j hb
theorem Jn.sees (hst : ∀ k o, all[k]? = some o → StepA E spec all (opCls E ld k o.op) (n0 + zat all.toList k) o (S k) (S (k + 1))) (hok : drawOk E ld all = true) (J : Jn E ld all S listed cur) {i : Nat} {o : Oper} (hi : all[i]? = some o) (hun : listed.getD i false = false) (hed : ∀ e, e ∈ o.after.toList → Region.binds .any e = true → listed.getD e.on false = true) :
    (∀ t, t ∈ o.looksAt all ∨ o.dst = some t → cur.sl t = (S i).sl t) ∧ (opCls E ld i o.op ≠ 0 → cur.hp = (S i).hp) := by
  have hil := (Array.getElem?_eq_some_iff.1 hi).1
  refine ⟨fun t ht => ?_, fun hc => ?_⟩
  · obtain ⟨m, hm, h1, h2⟩ := J.slot t
    have key : ∀ j x, all[j]? = some x → x.dst = some t → j ≠ i → (j < m ↔ j < i) := fun j x hj hx hne => by
      rw [← h2 j x hj hx]
      exact J.order hok hi hun hed hj hne (confl_slot (.inl ⟨hx, ht⟩)) (confl_slot (.inr ⟨hx, ht⟩))
    rw [h1]
    by_cases hmi : m ≤ i
    · have := frame_sl hst (t := t) (m := m) (i - m) (by omega) fun j x hj1 hj2 hj hx => by
        have := key j x hj hx (by omega)
        omega
      rw [show m + (i - m) = i by omega] at this
      exact this.symm
    · have := frame_sl hst (t := t) (m := i) (m - i) (by omega) fun j x hj1 hj2 hj hx => by
        by_cases hji : j = i
        · subst hji
          have := (h2 j x hj hx).2 (by omega)
          rw [hun] at this
          cases this
        · have := key j x hj hx hji
          omega
      rw [show i + (m - i) = m by omega] at this
      exact this
  · obtain ⟨m, hm, h1, h2⟩ := J.heap
    have key : ∀ j x, all[j]? = some x → opCls E ld j x.op = 2 → j ≠ i → (j < m ↔ j < i) := fun j x hj hx hne => by
      rw [← h2 j x hj hx]
      exact J.order hok hi hun hed hj hne (confl_heap (.inr ⟨hx, hc⟩)) (confl_heap (.inl ⟨hc, hx⟩))
    rw [h1]
    by_cases hmi : m ≤ i
    · have := frame_hp hst (m := m) (i - m) (by omega) fun j x hj1 hj2 hj hx => by
        have := key j x hj hx (by omega)
        omega
      rw [show m + (i - m) = i by omega] at this
      exact this.symm
    · have := frame_hp hst (m := i) (m - i) (by omega) fun j x hj1 hj2 hj hx => by
        by_cases hji : j = i
        · subst hji
          have := (h2 j x hj hx).2 (by omega)
          rw [hun] at this
          cases this
        · have := key j x hj hx hji
          omega
      rw [show i + (m - i) = m by omega] at this
      exact this
theorem getD_set (listed : Array Bool) {i j : Nat} (hi : i < listed.size) : (listed.setIfInBounds i true).getD j false = if j = i then true else listed.getD j false := by
  by_cases h : j = i
  · subst h
    simp [hi]
  · simp [Array.getElem?_setIfInBounds_ne (fun e => h e.symm), h]
theorem Jn.step (hok : drawOk E ld all = true) (J : Jn E ld all S listed cur) {i : Nat} {o : Oper} (hi : all[i]? = some o) (hun : listed.getD i false = false) (hed : ∀ e, e ∈ o.after.toList → Region.binds .any e = true → listed.getD e.on false = true)
    {cur' : St} (hn : cur'.n = cur.n) (h1 : ∀ t, o.dst ≠ some t → cur'.sl t = cur.sl t) (h2 : ∀ t, o.dst = some t → cur'.sl t = (S (i + 1)).sl t)
    (h3 : opCls E ld i o.op = 2 → cur'.hp = (S (i + 1)).hp) (h4 : opCls E ld i o.op ≠ 2 → cur'.hp = cur.hp) : Jn E ld all S (listed.setIfInBounds i true) cur' := by
  have hil := (Array.getElem?_eq_some_iff.1 hi).1
  have hil' : i < listed.size := by rw [J.size]; exact hil
  refine ⟨by rw [Array.size_setIfInBounds]; exact J.size, hn.trans J.n, fun j x hl hj e he hb => ?_, fun t => ?_, ?_⟩
  · rw [getD_set _ hil'] at hl ⊢
    split
    · rfl
    · split at hl
      · rename_i hji
        subst hji
        rw [hi] at hj
        injection hj with hj
        subst hj
        exact hed e he hb
      · exact J.closed j x hl hj e he hb
  · by_cases ht : o.dst = some t
    · refine ⟨i + 1, hil, h2 t ht, fun j x hj hx => ?_⟩
      rw [getD_set _ hil']
      split
      · rename_i e
        simp [e]
      · rename_i e
        rw [J.order hok hi hun hed hj e (confl_slot (.inl ⟨hx, .inr ht⟩)) (confl_slot (.inr ⟨hx, .inr ht⟩))]
        omega
    · obtain ⟨m, hm, k1, k2⟩ := J.slot t
      refine ⟨m, hm, (h1 t ht).trans k1, fun j x hj hx => ?_⟩
      rw [getD_set _ hil']
      split
      · rename_i e
        subst e
        rw [hi] at hj
        injection hj with hj
        subst hj
        exact absurd hx ht
      · exact k2 j x hj hx
  · by_cases hc : opCls E ld i o.op = 2
    · refine ⟨i + 1, hil, h3 hc, fun j x hj hx => ?_⟩
      rw [getD_set _ hil']
      split
      · rename_i e
        simp [e]
      · rename_i e
        rw [J.order hok hi hun hed hj e (confl_heap (.inr ⟨hx, by omega⟩)) (confl_heap (.inl ⟨by omega, hx⟩))]
        omega
    · obtain ⟨m, hm, k1, k2⟩ := J.heap
      refine ⟨m, hm, (h4 hc).trans k1, fun j x hj hx => ?_⟩
      rw [getD_set _ hil']
      split
      · rename_i e
        subst e
        rw [hi] at hj
        injection hj with hj
        subst hj
        exact absurd hx hc
      · exact k2 j x hj hx
theorem mem_ready {i : Nat} : i ∈ Region.ready .any all listed ↔ i < all.size ∧ listed.getD i true = false ∧ ∃ o, all[i]? = some o ∧ ∀ e, e ∈ o.after.toList → Region.binds .any e = true → listed.getD e.on false = true := by
  unfold Region.ready
  rw [List.mem_filter, List.mem_range]
  constructor
  · rintro ⟨h1, h2⟩
    rw [Array.getElem?_eq_getElem h1] at h2
    simp only [Option.map_some, Option.getD_some, Bool.and_eq_true, Bool.not_eq_true', Array.all_eq_true', Bool.or_eq_true] at h2
    exact ⟨h1, h2.1, _, Array.getElem?_eq_getElem h1, fun e he hb => by
      rcases h2.2 e (by simpa using he) with h3 | h3
      · rw [hb] at h3; cases h3
      · exact h3⟩
  · rintro ⟨h1, h2, o, ho, h3⟩
    refine ⟨h1, ?_⟩
    rw [ho]
    simp only [Option.map_some, Option.getD_some, Bool.and_eq_true, Bool.not_eq_true', Array.all_eq_true', Bool.or_eq_true]
    exact ⟨h2, fun e he => by
      by_cases hb : Region.binds .any e = true
      · exact .inr (h3 e (by simpa using he) hb)
      · exact .inl (by simpa using hb)⟩
theorem getD_true {i : Nat} (hi : i < listed.size) : listed.getD i true = listed.getD i false := by simp [Array.getD, hi]
theorem ready_nil (hok : drawOk E ld all = true) (J : Jn E ld all S listed cur) (h : Region.ready .any all listed = []) : ∀ i, i < all.size → listed.getD i false = true := by
  intro i
  induction i using Nat.strongRecOn with
  | _ i ih =>
    intro hi
    apply Classical.byContradiction
    intro hn
    have : i ∈ Region.ready .any all listed := mem_ready.2 ⟨hi, by rw [getD_true (by rw [J.size]; exact hi)]; simpa using hn, _, Array.getElem?_eq_getElem hi, fun e he hb => by
      have := (drawOk_spec hok (Array.getElem?_eq_getElem hi)).1 e he hb
      exact ih _ this (by omega)⟩
    rw [h] at this
    cases this
theorem SRep.same {w : World} {β : Bs} {a : Act} {s s' : St} (h : SRep w β s a) (hn : s'.n = s.n) (hh : s'.hp = s.hp) (hs : ∀ t, t < s.n → s'.sl t = s.sl t) : SRep w β s' a :=
  ⟨by rw [hh]; exact h.hp, by rw [hn]; exact h.size, fun t ht => by rw [hn] at ht; rw [hs t ht, hh]; exact h.sl t ht, h.defers⟩
theorem get_same {s s' : St} (hn : s'.n = s.n) {t : Nat} (hs : s'.sl t = s.sl t) : s'.get t = s.get t := by unfold St.get; rw [hn, hs]
theorem yielded_of {w : World} {β : Bs} {s : St} {a : Act} (hS : SRep w β s a) {j d : Nat} {b : Bool} (hd : (all[j]?).bind (·.dst) = some d) (hb : s.get d = .b b) : yielded all a.tmps j = some b := by
  have r2 := (hS.refine_ hb).2
  obtain ⟨dd, hdd⟩ : ∃ dd, a.tmps[d]? = some dd := by
    cases hq : a.tmps[d]? with
    | some dd => exact ⟨dd, rfl⟩
    | none =>
      simp [Array.getD_eq_getD_getElem?, hq] at r2
      cases r2
  have : dd = .bool b := by simpa [Array.getD_eq_getD_getElem?, hdd] using r2
  subst this
  unfold yielded
  simp [hd, hdd]
theorem clsSpec_ok (hsp : SpsOk P spec) (c : Nat) : SpsOk P (clsSpec spec c) := by
  unfold clsSpec
  split
  · exact hsp
  · exact frzS_ok hsp
/-- The variables that are not made yet have their places. -/
def ZOk (E : Env) (n0 : Nat) (all : Array Oper) (listed : Array Bool) (β : Bs) (hp : List Obj) : Prop :=
  ∀ k o t z, all[k]? = some o → o.op = .alloc t → E.zero t = some z → listed.getD k false = false → hget hp (n0 + zat all.toList k) = .zbox t (z.map CV.v) ∧ β.f (n0 + zat all.toList k) 0 = none
theorem EvoS.weak {s : Prop} {w : World} {β : Bs} {hp : List Obj} {w' : World} {β' : Bs} {hp' : List Obj} (h : EvoS s w β hp w' β' hp') : EvoS False w β hp w' β' hp' :=
  ⟨h.os, h.tape, h.output, h.size, h.ext, h.fresh, h.len, h.out, fun id hid => by
    have h1 := h.obj id hid
    revert h1
    generalize hget hp id = o0
    generalize hget hp' id = o1
    intro h1
    cases o0 <;> cases o1 <;> first
      | exact h1
      | exact h1.elim
      | (rcases h1 with h1 | h1
         · exact .inl h1
         · exact .inr ⟨h1.1, fun h => h⟩)
      | exact .inr fun h => h
      | (obtain ⟨a1, a2, a3 | a3⟩ := h1
         · exact ⟨a1, a2, .inl a3⟩
         · exact ⟨a1, a2, .inr ⟨a3.1, fun h => h⟩⟩)⟩
theorem ZOk.evo {w : World} {β : Bs} {hp : List Obj} {w' : World} {β' : Bs} {hp' : List Obj} (h : Evo w β hp w' β' hp') {i : Nat} (hZ : ZOk E n0 all listed β hp) (hi : i < listed.size) : ZOk E n0 all (listed.setIfInBounds i true) β' hp' := by
  intro k o t z hk ho hz hl
  rw [getD_set _ hi] at hl
  split at hl
  · cases hl
  · obtain ⟨h1, h2⟩ := hZ k o t z hk ho hz hl
    have hid := hget_lt h1 (by simp)
    have h3 := h.obj _ hid
    rw [h1] at h3
    revert h3
    generalize hget hp' (n0 + zat all.toList k) = o1
    intro h3
    have h2' : β.main (n0 + zat all.toList k) = none := h2
    cases o1 with
    | zbox e cs =>
      obtain ⟨a1, a2, a3 | a3⟩ := h3
      · exact ⟨by rw [a1, a2], by show β'.main _ = _; rw [a3]; exact h2⟩
      · exact absurd trivial a3.2
    | box e cs =>
      rcases h3 with h3 | h3
      · exact absurd h2' h3.2
      · exact absurd trivial h3.2
    | gone =>
      rcases h3 with h3 | h3
      · exact absurd h2' h3
      · exact absurd trivial h3
    | row e r xs => exact h3.elim
    | fro e r xs => exact h3.elim
    | nest e pk eb r xs ov => exact h3.elim
/-- What one operation of any order does. -/
theorem draw_op (hE : EnvOk P E) (hsp : SpsOk P spec) (hst : ∀ k o, all[k]? = some o → StepA E spec all (opCls E ld k o.op) (n0 + zat all.toList k) o (S k) (S (k + 1))) (hok : drawOk E ld all = true) (J : Jn E ld all S listed cur)
    {i : Nat} {o : Oper} (hi : all[i]? = some o) (hun : listed.getD i false = false) (hed : ∀ e, e ∈ o.after.toList → Region.binds .any e = true → listed.getD e.on false = true)
    {w : World} {β : Bs} {a : Act} (hS : SRep w β cur a) (hZ : ZOk E n0 all listed β cur.hp) {Q : Exit → Act → World → Prop} {K : Act → World → Prop}
    (next : ∀ cur' a' w' β', (∀ t, o.dst ≠ some t → a'.tmps.getD t undef = a.tmps.getD t undef) → Jn E ld all S (listed.setIfInBounds i true) cur' → SRep w' β' cur' a' → ZOk E n0 all (listed.setIfInBounds i true) β' cur'.hp → EvoS False w β cur.hp w' β' cur'.hp → K a' w') : wpOp P all Q i K a w := by
  obtain ⟨s1, s2⟩ := J.sees hst hok hi hun hed
  have hil := (Array.getElem?_eq_some_iff.1 hi).1
  have hsn : cur.n = (S i).n := J.n.trans (frame_n hst i (by omega)).symm
  have hx : ∀ x, x ∈ o.op.operands → cur.ev x = (S i).ev x := fun x hm => by
    cases x with
    | tmp t => exact get_same hsn (s1 t (.inl (List.mem_append_left _ (List.mem_filterMap.2 ⟨.tmp t, by simpa using hm, rfl⟩))))
    | _ => rfl
  have hg : ∀ j want d, o.guard = some (j, want) → (all[j]?).bind (·.dst) = some d → cur.get d = (S i).get d := fun j want d h1 h2 =>
    get_same hsn (s1 d (.inl (by simp [Oper.looksAt, h1, h2])))
  unfold wpOp
  simp only [hi]
  have hputd : ∀ (s : St) hp v t, o.dst = some t → (s.put hp o.dst v).sl t = v := fun s hp v t ht => by
    rw [ht]
    show (if t = t then v else _) = v
    rw [if_pos rfl]
  have hputn : ∀ (s : St) hp v t, o.dst ≠ some t → (s.put hp o.dst v).sl t = s.sl t := fun s hp v t ht => by
    cases hd : o.dst with
    | none => rfl
    | some d =>
      show (if t = d then v else s.sl t) = _
      rw [if_neg (fun e => ht (by rw [hd, e]))]
  have hil' : i < listed.size := by rw [J.size]; exact hil
  rcases hst i o hi with ⟨t, z, hop, hgd, hz, hs'⟩ | ⟨hw, hna, v, hp, hs', hc2, hK⟩ | ⟨⟨j, want, d, hg1, hg2, hg3⟩, hs'⟩
  · have hwant : Region.wanted o (yielded all a.tmps) = true := by simp [Region.wanted, hgd]
    rw [if_pos hwant]
    left
    obtain ⟨inf, zv, hinf, hzv, hzc, hone⟩ := hE.zero t z hz
    obtain ⟨hzb, hzn⟩ := hZ i o t z hi hop hz hun
    have hidz := hget_lt hzb (by simp)
    have hfz : ∀ j, fp cur.hp (n0 + zat all.toList i) j → j = 0 := fun j hj => by
      unfold fp at hj
      rw [hzb] at hj
      exact hj
    obtain ⟨e1, e2⟩ := hS.hp.stepS (s := False) (w' := w.alloc (.cells zv.cells t)) (β' := bnewF β (n0 + zat all.toList i) (fp1 (some (w.heap.size, 0)))) (hp' := cur.hp) (fun id => id = n0 + zat all.toList i) rfl rfl rfl (by simp) (Nat.le_refl _) rfl (fun b hb _ => alloc_old w _ b hb)
      (fun id hn hl => ⟨rfl, bnewF_ne _ _ hn, fun j g c hf hb => alloc_old w _ g (hS.hp.ltj hf hb)⟩)
      (fun id j g c hn hl hb => by
        subst hn
        rw [bnewF_at] at hb
        obtain ⟨_, hb⟩ := fp1_some hb
        injection hb with hb
        injection hb with hb
        exact .inl (by omega))
      (fun id id' j j' g c c' hn hn' hl hl' hb hb' => by
        subst hn hn'
        exact ⟨rfl, (hfz j hl).trans (hfz j' hl').symm⟩)
      (fun id hid => by
        by_cases e : id = n0 + zat all.toList i
        · subst e
          refine .inr fun _ => ?_
          rw [hzb]
          exact ⟨rfl, rfl, .inr ⟨hzn, fun h => h⟩⟩
        · exact .inl ⟨rfl, bnewF_ne _ _ e⟩)
    have hH' := e2 fun id hn hid => by
      subst hn
      unfold ObjRep
      rw [hzb]
      exact .inr ⟨w.heap.size, 0, zv.cells, by show (bnewF β _ _).f _ 0 = _; rw [bnewF_at]; rfl, alloc_at w _, by rw [hzc]; exact repL_consts z hone _, fun u hu => by
        rw [hzc] at hu
        exact List.all_eq_true.1 hone u hu⟩
    have hr : (AV.cv (.ptr (n0 + zat all.toList i) 0)).rep (w.alloc (.cells zv.cells t)) (bnewF β (n0 + zat all.toList i) (fp1 (some (w.heap.size, 0)))) cur.hp (.pointer (some ⟨w.heap.size, 0, none⟩)) := by
      refine ⟨hidz, ?_⟩
      rw [hzb]
      exact ⟨w.heap.size, 0, by show (bnewF β _ _).f _ 0 = _; rw [bnewF_at]; rfl, rfl⟩
    refine wp_val (u := .pointer (some ⟨w.heap.size, 0, none⟩)) (w' := w.alloc (.cells zv.cells t)) ?_ ?_
    · unfold execOp
      rw [hop]
      exact run_v (by simp [Instr.alloc, run_zeroValue hinf hzv, newVar, newRow])
    · refine next (cur.put cur.hp o.dst (.cv (.ptr (n0 + zat all.toList i) 0))) _ _ _ (fun t ht => put_keep _ _ _ _ ht) ?_ (hS.put hH' e1 hr o.dst) (fun k o' t' z' hk ho' hz' hl' => ?_) (by rw [put_hp]; exact e1)
      · have hc0 : opCls E ld i o.op = 0 := by rw [hop]; rfl
        refine J.step hok hi hun hed (put_n _ _ _ _) (fun t ht => hputn _ _ _ _ ht) (fun t ht => ?_) (fun hc => by omega) (fun hc => by rw [put_hp])
        rw [hputd _ _ _ _ ht, hs', hputd _ _ _ _ ht]
      · rw [getD_set _ hil'] at hl'
        split at hl'
        · cases hl'
        · rename_i hne
          obtain ⟨h1, h2⟩ := hZ k o' t' z' hk ho' hz' hl'
          have hkl := (Array.getElem?_eq_some_iff.1 hk).1
          have hzz : n0 + zat all.toList k ≠ n0 + zat all.toList i := fun e => by
            rcases Nat.lt_or_gt_of_ne hne with h | h
            · have := zat_lt all.toList k i o' t' (by simpa using hk) ho' h (by simp; omega)
              omega
            · have := zat_lt all.toList i k o t (by simpa using hi) hop h (by simp; omega)
              omega
          rw [put_hp, bnewF_ne _ _ hzz]
          exact ⟨h1, h2⟩
  · have hwant : Region.wanted o (yielded all a.tmps) = true := by
      rcases hw with hw | ⟨j, want, d, hg1, hg2, hg3⟩
      · simp [Region.wanted, hw]
      · rw [← hg j want d hg1 hg2] at hg3
        simp [Region.wanted, hg1, yielded_of hS hg2 hg3]
    rw [if_pos hwant]
    left
    have key : aop E (clsSpec spec (opCls E ld i o.op)) o.op cur fun v' hp' => v' = v ∧ (opCls E ld i o.op = 2 → hp' = hp) ∧ (opCls E ld i o.op ≠ 2 → hp' = cur.hp) := by
      by_cases hc0 : opCls E ld i o.op = 0
      · have h1 := aop_hp0 (E := E) (ld := ld) (i := i) hc0 hna cur.hp (K := fun v' => v' = v) (hK (fun v' _ => v' = v) rfl)
        have h2 := aop_cong (st' := cur) (fun x hm => (hx x hm).trans (ev_hp (S i) cur.hp x).symm) rfl h1
        obtain ⟨v', hp', ⟨e1, e2⟩, h3⟩ := aop_one h2
        exact h3 _ ⟨e2, fun e => by omega, fun _ => e1⟩
      · have hh := s2 hc0
        refine aop_cong (st' := cur) hx hh (hK _ ⟨rfl, fun _ => rfl, fun e => ?_⟩)
        rw [hh]
        exact hc2 e
    refine aop_run hE (clsSpec_ok hsp _) hS key fun u av w' β' hp' ⟨e1, e2, e3⟩ hH hev hr => ?_
    subst e1
    refine next (cur.put hp' o.dst av) _ w' β' (fun t ht => put_keep _ _ _ _ ht) ?_ (hS.put hH hev hr o.dst) (by rw [put_hp]; exact hZ.evo hev hil') (by rw [put_hp]; exact hev.weak)
    refine J.step hok hi hun hed (put_n _ _ _ _) (fun t ht => hputn _ _ _ _ ht) (fun t ht => ?_) (fun hc => ?_) (fun hc => ?_)
    · rw [hputd _ _ _ _ ht, hs', hputd _ _ _ _ ht]
    · rw [put_hp, hs', put_hp]; exact e2 hc
    · rw [put_hp]; exact e3 hc
  · rw [← hg j want d hg1 hg2] at hg3
    have hwant : Region.wanted o (yielded all a.tmps) = false := by
      simp [Region.wanted, hg1, yielded_of hS hg2 hg3]
    rw [if_neg (by simp [hwant])]
    refine next (cur.put cur.hp o.dst (.cv .any)) _ w β (fun t ht => put_keep _ _ _ _ ht) ?_ (hS.put hS.hp (Evo.refl _ _ _) (av := .cv .any) (v := undef) trivial o.dst) (by rw [put_hp]; exact hZ.evo (Evo.refl w β cur.hp) hil') (by rw [put_hp]; exact EvoS.refl _ _ _)
    refine J.step hok hi hun hed (put_n _ _ _ _) (fun t ht => hputn _ _ _ _ ht) (fun t ht => ?_) (fun hc => ?_) (fun hc => ?_)
    · rw [hputd _ _ _ _ ht, hs', hputd _ _ _ _ ht]
    · rw [put_hp, hs', put_hp]; exact s2 (by omega)
    · rw [put_hp]
theorem draw_any (hE : EnvOk P E) (hsp : SpsOk P spec) (hst : ∀ k o, all[k]? = some o → StepA E spec all (opCls E ld k o.op) (n0 + zat all.toList k) o (S k) (S (k + 1))) (hok : drawOk E ld all = true) {Q : Exit → Act → World → Prop}
    {w0 : World} {β0 : Bs} {hp0 : List Obj} {a0 : Act} (next : ∀ a' w' β', (∀ t, (∀ o, o ∈ all.toList → o.dst ≠ some t) → a'.tmps.getD t undef = a0.tmps.getD t undef) → SRep w' β' (S all.size) a' → EvoS False w0 β0 hp0 w' β' (S all.size).hp → Q .normal a' w') :
    ∀ (fuel : Nat) (listed : Array Bool) (U : List Nat) (cur : St) (a : Act) (w : World) (β : Bs), Jn E ld all S listed cur → (∀ i, i < all.size → listed.getD i false = false → i ∈ U) → U.length ≤ fuel → (∀ t, (∀ o, o ∈ all.toList → o.dst ≠ some t) → a.tmps.getD t undef = a0.tmps.getD t undef) → SRep w β cur a → ZOk E n0 all listed β cur.hp → EvoS False w0 β0 hp0 w β cur.hp →
      wpAny P .any all Q fuel listed a w := by
  have fin : ∀ (listed : Array Bool) (cur : St) (a : Act) (w : World) (β : Bs), Jn E ld all S listed cur → (∀ t, (∀ o, o ∈ all.toList → o.dst ≠ some t) → a.tmps.getD t undef = a0.tmps.getD t undef) → SRep w β cur a → EvoS False w0 β0 hp0 w β cur.hp → Region.ready .any all listed = [] → Q .normal a w := fun listed cur a w β J hkp hS hE0 hr => by
    have hl := ready_nil hok J hr
    have hheap : (S all.size).hp = cur.hp := by
      obtain ⟨m, hm, h1, h2⟩ := J.heap
      rw [h1]
      have := frame_hp hst (m := m) (all.size - m) (by omega) fun j x hj1 hj2 hj hx => by
        have := (h2 j x hj hx).1 (hl j (by omega))
        omega
      rwa [show m + (all.size - m) = all.size by omega] at this
    refine next a w β hkp (hS.same ((frame_n hst _ (Nat.le_refl _)).trans J.n.symm) hheap fun t ht => ?_) (by rw [hheap]; exact hE0)
    obtain ⟨m, hm, h1, h2⟩ := J.slot t
    rw [h1]
    have := frame_sl hst (t := t) (m := m) (all.size - m) (by omega) fun j x hj1 hj2 hj hx => by
      have := (h2 j x hj hx).1 (hl j (by omega))
      omega
    rwa [show m + (all.size - m) = all.size by omega] at this
  intro fuel
  induction fuel with
  | zero =>
    intro listed U cur a w β J hU hf hkp hS hZ hE0
    have hr : Region.ready .any all listed = [] := by
      cases hq : Region.ready .any all listed with
      | nil => rfl
      | cons i l =>
        have hm : i ∈ Region.ready .any all listed := by rw [hq]; simp
        obtain ⟨h1, h2, _⟩ := mem_ready.1 hm
        have := hU i h1 (by rw [← getD_true (by rw [J.size]; exact h1)]; exact h2)
        have : U = [] := List.length_eq_zero_iff.1 (by omega)
        simp_all
    exact ⟨hr, fin listed cur a w β J hkp hS hE0 hr⟩
  | succ fuel ih =>
    intro listed U cur a w β J hU hf hkp hS hZ hE0
    refine ⟨fun hr => fin listed cur a w β J hkp hS hE0 hr, fun i hm => ?_⟩
    obtain ⟨h1, h2, o, ho, h3⟩ := mem_ready.1 hm
    have hun : listed.getD i false = false := by rw [← getD_true (by rw [J.size]; exact h1)]; exact h2
    refine draw_op hE hsp hst hok J ho hun h3 hS hZ fun cur' a' w' β' hk1 J' hS' hZ' he => ?_
    refine ih _ (U.erase i) cur' a' w' β' J' (fun j hj hlj => ?_) ?_ (fun t ht => (hk1 t (ht o (by rw [Array.mem_toList_iff]; exact Array.mem_of_getElem? ho))).trans (hkp t ht)) hS' hZ' (hE0.trans he)
    · rw [getD_set _ (by rw [J.size]; exact h1)] at hlj
      split at hlj
      · cases hlj
      · rename_i hne
        exact (List.mem_erase_of_ne hne).2 (hU j hj hlj)
    · rw [List.length_erase_of_mem (hU i h1 hun)]
      omega
end
theorem Evo.drawn (w : World) (β : Bs) (hp : List Obj) (n : Nat) : Evo w β hp { w with drawn := n } β hp :=
  ⟨rfl, rfl, rfl, Nat.le_refl _, fun _ _ _ => rfl, fun _ h => .inl h, Nat.le_refl _, rfl, fun _ _ => ObjEvo.refl _⟩
theorem SRep.drawn {w : World} {β : Bs} {st : St} {a : Act} (h : SRep w β st a) (n : Nat) : SRep { w with drawn := n } β st a := by
  have he := Evo.drawn w β st.hp n
  have hs := he.stays
  refine ⟨⟨fun id hid => ?_, h.hp.diss, h.hp.nos, h.hp.old⟩, h.size, fun t ht => he.av (h.sl t ht), h.defers⟩
  have := h.hp.obj id hid
  unfold ObjRep at this ⊢
  split
  · rename_i e r xs hg
    rw [hg] at this
    exact this.mono hs (fun _ _ _ => rfl)
  · rename_i e cs hg
    rw [hg] at this
    obtain ⟨g, c, cells, h1, h2, h3, h4⟩ := this
    exact ⟨g, c, cells, h1, h2, he.cvs h3, h4⟩
  · rename_i e cs hg
    rw [hg] at this
    rcases this with h0 | ⟨g, c, cells, h1, h2, h3, h4⟩
    · exact .inl h0
    · exact .inr ⟨g, c, cells, h1, h2, he.cvs h3, h4⟩
  · rename_i e pk eb r xs ov hg
    rw [hg] at this
    refine nestO.mono hs (fun _ _ _ => rfl) (fun _ _ _ _ _ _ => rfl) (fun q' hq' => ?_) (fun q hq => ?_) this
    · cases ov with
      | none => cases hq'
      | some p =>
        injection hq' with hq'
        subst hq'
        exact ⟨_, rfl, rfl, fun u hu => he.cv hu⟩
    · cases ov with
      | none => cases hq
      | some p =>
        injection hq with hq
        subst hq
        exact ⟨_, rfl, rfl⟩
  · trivial
/-- **A region whose order is drawn.** -/
theorem draw_run (hE : EnvOk P E) (hsp : SpsOk P spec) {ld : List Nat} {id : Nat} {all : Array Oper} {Q : Exit → Act → World → Prop} {st : St} {a : Act} {w : World} {β : Bs} {K : St → Prop} (hok : drawOk E ld all = true) (hS : SRep w β st a)
    (h : aopsD E spec ld st.hp.length all 0 all.toList { st with hp := st.hp ++ zboxes E all.toList } K) (next : ∀ st' a' w' β', st'.n = st.n → (∀ t, (∀ o, o ∈ all.toList → o.dst ≠ some t) → a'.tmps.getD t undef = a.tmps.getD t undef) → K st' → SRep w' β' st' a' → EvoS False w β st.hp w' β' st'.hp → Q .normal a' w') : (Code.region id all true).wp P Q a w := by
  obtain ⟨S, h0, h1, h2⟩ := trace all.toList 0 _ (by simp) (by simp) h
  have hst : ∀ k o, all[k]? = some o → StepA E spec all (opCls E ld k o.op) (st.hp.length + zat all.toList k) o (S k) (S (k + 1)) := fun k o hk => h2 k o (Nat.zero_le _) hk
  -- the places of what is made
  let β1 : Bs := ⟨fun id => if id < st.hp.length then β.f id else nF, β.out⟩
  have hb1 : ∀ id, id < st.hp.length → β1.f id = β.f id := fun id h => if_pos h
  have hb2 : ∀ id, ¬ id < st.hp.length → β1.f id = nF := fun id h => if_neg h
  obtain ⟨e1, e2⟩ := hS.hp.step (w' := w) (β' := β1) (hp' := st.hp ++ zboxes E all.toList) (fun id => st.hp.length ≤ id) rfl rfl rfl (Nat.le_refl _) (by simp) rfl (fun _ _ _ => rfl)
    (fun id hn hl => ⟨hget_append_lt _ _ _ (by omega), hb1 id (by omega), fun _ _ _ _ _ => rfl⟩)
    (fun id j g c hn hl hb => by
      rw [hb2 id (by omega)] at hb
      cases hb)
    (fun id id' j j' g c c' hn hn' hl hl' hb hb' => by
      rw [hb2 id (by omega)] at hb
      cases hb)
    (fun id hid => .inl ⟨hget_append_lt _ _ _ hid, hb1 id hid⟩)
  have hzo : ∀ (l : List Oper) (k : Nat), hget (zboxes E l) k = .gone ∨ ∃ e cs, hget (zboxes E l) k = .zbox e cs := by
    intro l
    induction l with
    | nil => exact fun k => .inl rfl
    | cons o l ih =>
      intro k
      unfold zboxes
      split
      · cases k with
        | zero =>
          split
          · exact .inr ⟨_, _, rfl⟩
          · exact .inl rfl
        | succ k => exact ih k
      · exact ih k
  have hH := e2 fun id hn hid => by
    unfold ObjRep
    rw [hget_news _ _ _ hn]
    rcases hzo all.toList (id - st.hp.length) with e | ⟨e, cs, e'⟩
    · rw [e]; exact trivial
    · rw [e']
      exact .inl (by show β1.f id 0 = none; rw [hb2 id (by omega)]; rfl)
  have hS1 : SRep w β1 { st with hp := st.hp ++ zboxes E all.toList } a := ⟨hH, hS.size, fun t ht => e1.av (hS.sl t ht), hS.defers⟩
  refine wp_region_any hE.mixed ?_
  have hnl : ∀ j, (Array.replicate all.size false).getD j false = false := fun j => by
    by_cases hj : j < all.size <;> simp [Array.getD, hj]
  refine draw_any hE hsp hst hok (w0 := w) (β0 := β) (hp0 := st.hp) (fun a' w' β' hk hS' he => next _ a' w' β' ((frame_n hst _ (Nat.le_refl _)).trans (by rw [h0])) hk h1 hS' he) all.size _ (List.range all.size) { st with hp := st.hp ++ zboxes E all.toList } a { w with drawn := w.drawn + 1 } β1 ?_ (fun i hi _ => List.mem_range.2 hi) (by simp) (fun _ _ => rfl) (hS1.drawn _)
    (fun k o t z hk ho hz _ => ?_) (e1.weak.trans (Evo.drawn _ _ _ _).weak)
  · refine ⟨by simp, by rw [h0], fun j o hl => ?_, fun t => ⟨0, Nat.zero_le _, by rw [h0], fun j o _ _ => ?_⟩, ⟨0, Nat.zero_le _, by rw [h0], fun j o _ _ => ?_⟩⟩
    · rw [hnl] at hl
      cases hl
    · rw [hnl]
      simp
    · rw [hnl]
      simp
  · obtain ⟨g1, g2⟩ := zboxes_get all.toList k o t z (by simpa using hk) ho hz
    refine ⟨?_, by rw [hb2 _ (by omega)]; rfl⟩
    show hget (st.hp ++ zboxes E all.toList) _ = _
    rw [hget_append_ge]
    exact g1
end
end Go.AX
