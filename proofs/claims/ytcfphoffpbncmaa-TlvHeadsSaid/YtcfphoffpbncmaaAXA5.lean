/- The abstract executor, part 5: rows of cells: what append makes, what a literal makes. -/
import Derived.Test.YtcfphoffpbncmaaAXA4
set_option linter.unusedVariables false
set_option linter.unusedSimpArgs false
namespace Go.AX
section
variable {P : Program} {w : World}
theorem alloc_old (w : World) (o : Go.Obj) (b : Nat) (h : b < w.heap.size) : (w.alloc o).heap[b]? = w.heap[b]? := by
  show (w.heap.push o)[b]? = _
  rw [Array.getElem?_push, if_neg (by omega)]
theorem alloc_at (w : World) (o : Go.Obj) : (w.alloc o).heap[w.heap.size]? = some o := by
  show (w.heap.push o)[w.heap.size]? = _
  simp
theorem Row.size_pos : (r : Row) → 0 < r.size
  | .one _ => Nat.one_pos
  | .cons _ _ => Nat.succ_pos _
/-- The cells of a slice's elements, one behind the other. -/
theorem seg_all {ok : Nat → Prop} {r : Row} {xs : List r.den} {L : List Value} {o : Nat} (h : ∀ (i : Nat) (x : r.den), xs[i]? = some x → r.rep w ok x ((L.drop (o + i * r.size)).take r.size)) :
    ((L.drop o).take (xs.length * r.size)).length = xs.length * r.size ∧ ∀ u ∈ (L.drop o).take (xs.length * r.size), u.oneCell' = true := by
  have hlen : ∀ i, i < xs.length → o + i * r.size + r.size ≤ L.length := fun i hi => by
    have := r.rep_len _ _ (h i _ (List.getElem?_eq_getElem hi))
    have hp := r.size_pos
    simp at this
    omega
  have hl : ((L.drop o).take (xs.length * r.size)).length = xs.length * r.size := by
    rw [List.length_take, List.length_drop]
    rcases Nat.eq_zero_or_pos xs.length with h0 | h0
    · rw [h0]; simp
    · have := hlen (xs.length - 1) (by omega)
      have e : (xs.length - 1) * r.size + r.size = xs.length * r.size := by
        rw [← Nat.succ_mul]; congr 1; omega
      omega
  refine ⟨hl, fun u hu => ?_⟩
  obtain ⟨j, hj⟩ := List.mem_iff_getElem?.1 hu
  have hp := r.size_pos
  have hjl : j < xs.length * r.size := by
    rcases Nat.lt_or_ge j ((L.drop o).take (xs.length * r.size)).length with h' | h'
    · omega
    · rw [List.getElem?_eq_none h'] at hj; cases hj
  have hi : j / r.size < xs.length := Nat.div_lt_of_lt_mul (by rwa [Nat.mul_comm])
  have hrow := h (j / r.size) _ (List.getElem?_eq_getElem hi)
  refine r.rep_one _ _ hrow u ?_
  rw [List.getElem?_take, if_pos hjl, List.getElem?_drop] at hj
  refine List.mem_iff_getElem?.2 ⟨j % r.size, ?_⟩
  rw [List.getElem?_take, if_pos (Nat.mod_lt _ hp), List.getElem?_drop]
  have := Nat.div_add_mod j r.size
  rw [Nat.mul_comm] at this
  rw [← hj]
  congr 1
  omega
/-- What was appended, element by element. -/
theorem seg_append {ok : Nat → Prop} {r : Row} {xs ys : List r.den} {A B C : List Value} (hA : A.length = xs.length * r.size)
    (h1 : ∀ (i : Nat) (x : r.den), xs[i]? = some x → r.rep w ok x ((A.drop (i * r.size)).take r.size)) (h2 : ∀ (i : Nat) (x : r.den), ys[i]? = some x → r.rep w ok x ((B.drop (i * r.size)).take r.size)) :
    ∀ (i : Nat) (x : r.den), (xs ++ ys)[i]? = some x → r.rep w ok x (((A ++ B ++ C).drop (i * r.size)).take r.size) := by
  intro i x hx
  rcases Nat.lt_or_ge i xs.length with hi | hi
  · rw [List.getElem?_append_left hi] at hx
    have hr := h1 i x hx
    have hl := r.rep_len _ _ hr
    have : i * r.size + r.size ≤ A.length := by
      rw [hA, ← Nat.succ_mul]; exact Nat.mul_le_mul_right _ hi
    rw [List.append_assoc, List.drop_append_of_le_length (by omega), List.take_append_of_le_length (by simp; omega)]
    exact hr
  · rw [List.getElem?_append_right hi] at hx
    have hr := h2 _ x hx
    have hl := r.rep_len _ _ hr
    have hp := r.size_pos
    simp at hl
    have e : i * r.size = A.length + (i - xs.length) * r.size := by
      rw [hA, ← Nat.add_mul]; congr 1; omega
    rw [List.append_assoc, e, ← List.drop_drop, List.drop_left, List.drop_append_of_le_length (by omega), List.take_append_of_le_length (by simp; omega)]
    exact hr
/-- append of slices, the first one the call's own (or nil). -/
theorem run_append {t ty e : TypeId} {i : TypeInfo} {z : Value} (ht : P.underlying t = some (.slice e)) (hi : P.info? e = some i) (hz : i.zero = some z) (hzs : z.cells.size = i.size) (hs0 : 0 < i.size) (hb0 : 0 < i.bytes)
    (o : Option (Nat × Nat)) (n : Nat) (olds : List Value) (hold : (o = none ∧ n = 0 ∧ olds = []) ∨ ∃ g cap cells, o = some (g, cap) ∧ w.heap[g]? = some (.cells cells e (0, 0)) ∧ cells.size = cap * i.size ∧ n ≤ cap ∧ cap ≤ maxLen ∧ olds = cells.toList.take (n * i.size))
    (A : Option Addr) (m c : Nat) (news : List Value) (hA : m = 0 ∨ ∃ ad, A = some ad ∧ ∀ (j : Nat) (u : Value), news[j]? = some u → w.cell? (ad.add j) = some u) (hl : news.length = m * i.size) (h1 : ∀ u ∈ news, u.oneCell' = true)
    (hbytes : (n + m) * i.bytes ≤ 140737488355328) :
    ∃ o' w', (Builtin.append_ #[t, t] ty #[ownVal o n, .slice A m c]).run P w = .ok (ownVal o' (n + m)) w' ∧ w'.os = w.os ∧ w'.tape = w.tape ∧ w'.output = w.output ∧ w.heap.size ≤ w'.heap.size ∧
      (∀ b, b < w.heap.size → (∀ c, o ≠ some (b, c)) → w'.heap[b]? = w.heap[b]?) ∧ (∀ g c, o' = some (g, c) → w.heap.size ≤ g ∨ ∃ c0, o = some (g, c0)) ∧
      ((o' = none ∧ n + m = 0) ∨ ∃ g cap cells, o' = some (g, cap) ∧ w'.heap[g]? = some (.cells cells e (0, 0)) ∧ cells.size = cap * i.size ∧ n + m ≤ cap ∧ cap ≤ maxLen ∧ ∃ C, cells.toList = olds ++ news ++ C) := by
  have hsum : n + m ≤ 140737488355328 := Nat.le_trans (Nat.le_mul_of_pos_right _ hb0) hbytes
  have hmax : n + m ≤ maxLen := by simp only [maxLen]; omega
  by_cases hm : m = 0
  · subst hm
    have hn : news = [] := List.eq_nil_of_length_eq_zero (by simpa using hl)
    subst hn
    have hf : (Builtin.firstCells i.size 0 (.slice A 0 c)).run P w = .ok #[] w := by
      cases A <;> simp [Builtin.firstCells, loadCells, loadCellsFrom]
    rcases hold with ⟨rfl, rfl, rfl⟩ | ⟨g, cap, cells, rfl, hg, hcs, hnc, hcm, rfl⟩
    · refine ⟨none, w, ?_, rfl, rfl, rfl, Nat.le_refl _, fun _ _ _ => rfl, (fun _ _ h => by cases h), .inl ⟨rfl, rfl⟩⟩
      simp [Builtin.append_, run_underlying ht, sizeOf, typeInfo, hi, Builtin.lenOf, hf, ownVal]
    · refine ⟨some (g, cap), w, ?_, rfl, rfl, rfl, Nat.le_refl _, fun _ _ _ => rfl, (fun g' c' h => by injection h with h; injection h with h h'; subst h; exact .inr ⟨_, rfl⟩), .inr ⟨g, cap, cells, rfl, hg, hcs, hnc, hcm, cells.toList.drop (n * i.size), by simp⟩⟩
      have hroom : n ≤ cap := hnc
      simp [Builtin.append_, run_underlying ht, sizeOf, typeInfo, hi, Builtin.lenOf, hf, ownVal, hroom, storeCells]
  · obtain ⟨ad, rfl, hnews⟩ := hA.resolve_left hm
    rcases hold with ⟨rfl, rfl, rfl⟩ | ⟨g, cap, cells, rfl, hg, hcs, hnc, hcm, rfl⟩
    · have hr := run_append_nil (P := P) w t ty e i z ht hi hz ad m c news hl hnews (by omega) (by omega) (by simp at hbytes; omega)
      have hge := grownCap_ge w m 0 e
      have hcm := grownCap_le_maxLen w m 0 e (by simpa using hmax)
      have hr' : (Builtin.append_ #[t, t] ty #[ownVal none 0, .slice (some ad) m c]).run P w = .ok (ownVal (some (w.heap.size, grownCap w m 0 e)) (0 + m)) (w.drew.alloc (.cells (news.toArray ++ Builtin.zeroCells z.cells (grownCap w m 0 e - m)) e)) := by rw [Nat.zero_add]; exact hr
      refine ⟨some (w.heap.size, grownCap w m 0 e), _, hr', rfl, rfl, rfl, by simp, (fun b hb _ => alloc_old w.drew _ b hb), (fun g c h => by injection h with h; injection h with h h'; exact .inl (by omega)), .inr ⟨w.heap.size, grownCap w m 0 e, _, rfl, alloc_at w.drew _, ?_, by omega, hcm, _, by simp; rfl⟩⟩
      simp only [Array.size_append, List.size_toArray, size_zeroCells, hzs, hl, ← Nat.add_mul]
      congr 1
      omega
    · by_cases hroom : n + m ≤ cap
      · have hfit : n * i.size + news.length ≤ cells.size := by rw [hl, hcs, ← Nat.add_mul]; exact Nat.mul_le_mul_right _ hroom
        have hr := run_append_room (P := P) w t ty e i ht hi g n cap cells hg ad m c news hl hnews h1 hroom hfit
        refine ⟨some (g, cap), _, hr, rfl, rfl, rfl, by simp, (fun b _ hne => setRow_other w g b _ (fun e => hne cap (by rw [e]))), (fun g' c' h => by injection h with h; injection h with h h'; subst h; exact .inr ⟨_, rfl⟩), .inr ⟨g, cap, _, rfl, setRow_heap w g cells _ e _ hg, ?_, hroom, hcm, _, rfl⟩⟩
        simp only [List.size_toArray, List.length_append, List.length_take, List.length_drop, Array.length_toList]
        omega
      · have hlo : (cells.toList.take (n * i.size)).length = n * i.size := by
          rw [List.length_take, Array.length_toList, hcs]
          exact Nat.min_eq_left (Nat.mul_le_mul_right _ hnc)
        have holds : ∀ (j : Nat) (u : Value), (cells.toList.take (n * i.size))[j]? = some u → w.cell? ((⟨g, 0, none⟩ : Addr).add j) = some u := fun j u hj => by
          rw [Addr.add_lit]
          exact seg_cell (o := 0) (n := n * i.size) hg j u (by simpa using hj)
        have hr := run_append_grow (P := P) w t ty e i z ht hi hz ⟨g, 0, none⟩ n cap _ hlo holds ad m c news hl hnews (by omega) (by omega) (growslice_fits (by omega) hbytes)
        have hge := grownCap_ge w (n + m) cap e
        have hcm' := grownCap_le_maxLen w (n + m) cap e hmax
        refine ⟨some (w.heap.size, grownCap w (n + m) cap e), _, hr, rfl, rfl, rfl, by simp, (fun b hb _ => alloc_old w.drew _ b hb), (fun g c h => by injection h with h; injection h with h h'; exact .inl (by omega)), .inr ⟨w.heap.size, grownCap w (n + m) cap e, _, rfl, alloc_at w.drew _, ?_, hge, hcm', _, by simp; rfl⟩⟩
        simp only [Array.size_append, List.size_toArray, size_zeroCells, hzs, hlo, hl, ← Nat.add_mul]
        congr 1
        omega
/-! ### Literals -/
theorem fill_all (n : Nat) : ∀ (vs : List (Nat × Value)) (j : Nat) (cs : Array Value), (∀ k p, vs[k]? = some p → p.1 = j + k) → (∀ p ∈ vs, p.2.cells.size = n) → (j + vs.length) * n ≤ cs.size →
    Instr.fill (fun i => some (i * n, n)) cs vs = some (cs.toList.take (j * n) ++ (vs.map fun p => p.2.cells.toList).flatten ++ cs.toList.drop ((j + vs.length) * n)).toArray
  | [], j, cs, _, _, _ => by simp [Instr.fill]
  | (i, v) :: rest, j, cs, hi, hs, hl => by
    have h0 : i = j := by simpa using hi 0 (i, v) rfl
    subst h0
    have hv := hs (i, v) (by simp)
    simp only at hv
    have hin : (i + 1) * n ≤ (i + (rest.length + 1)) * n := Nat.mul_le_mul_right _ (by omega)
    rw [Nat.succ_mul] at hin
    simp only [List.length_cons] at hl
    rw [fill_step (fun i => some (i * n, n)) cs i v rest (i * n) n rfl hv (by omega)]
    rw [fill_all n rest (i + 1) _ (fun k p hk => by have := hi (k + 1) p (by simpa using hk); omega) (fun p hp => hs p (by simp [hp])) (by
      simp [hv]
      have e : (i + 1 + rest.length) * n = (i + (rest.length + 1)) * n := by congr 1; omega
      omega)]
    congr 2
    have e1 : (cs.toList.take (i * n) ++ v.cells.toList ++ cs.toList.drop (i * n + n)).take ((i + 1) * n) = cs.toList.take (i * n) ++ v.cells.toList := by
      rw [Nat.succ_mul]
      apply List.take_left'
      simp [hv]
      omega
    have e2 : (cs.toList.take (i * n) ++ v.cells.toList ++ cs.toList.drop (i * n + n)).drop ((i + 1 + rest.length) * n) = cs.toList.drop ((i + (rest.length + 1)) * n) := by
      have e3 : (i + 1 + rest.length) * n = (i * n + n) + rest.length * n := by rw [Nat.add_mul, Nat.succ_mul]
      have e4 : (i + (rest.length + 1)) * n = (i * n + n) + rest.length * n := by rw [← e3]; congr 1; omega
      rw [e3, e4, ← List.drop_drop, List.drop_left' (by simp [hv]; omega), List.drop_drop]
    simp only [List.length_cons]
    rw [e1, e2]
    simp
theorem flat_get (n : Nat) : ∀ (ls : List (List Value)), (∀ l ∈ ls, l.length = n) → ∀ (i : Nat) (l : List Value), ls[i]? = some l → (ls.flatten.drop (i * n)).take n = l
  | [], _, i, l, h => by simp at h
  | x :: ls, hn, 0, l, h => by
    simp at h
    subst h
    have := hn x (by simp)
    simp [← this]
  | x :: ls, hn, i + 1, l, h => by
    have hx := hn x (by simp)
    rw [List.flatten_cons, Nat.succ_mul, Nat.add_comm, ← List.drop_drop, List.drop_left' hx]
    exact flat_get n ls (fun l hl => hn l (by simp [hl])) i l (by simpa using h)
theorem flat_len (n : Nat) : ∀ (ls : List (List Value)), (∀ l ∈ ls, l.length = n) → ls.flatten.length = ls.length * n
  | [], _ => by simp
  | x :: ls, hn => by
    rw [List.flatten_cons, List.length_append, hn x (by simp), flat_len n ls (fun l hl => hn l (by simp [hl])), List.length_cons, Nat.succ_mul, Nat.add_comm]
end
end Go.AX
