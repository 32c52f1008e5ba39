/- The abstract executor, part 3: what the model's operations do, told of cells and lists. -/
import Derived.Test.YtcfphoffpbncmaaAXA2
set_option linter.unusedVariables false
namespace Go.AX

def isAggD : TypeDesc → Bool
  | .struct _ => true
  | .array _ _ => true
  | _ => false
/-- The executor was told the truth. -/
structure EnvOk (P : Program) (E : Env) : Prop where
  slice : ∀ t e r b, E.slice t = some (e, r, b) → P.underlying t = some (.slice e) ∧ ∃ i z, P.info? e = some i ∧ i.size = r.size ∧ i.bytes = b ∧ i.zero = some z ∧ z.cells.size = r.size ∧ 0 < b
  var : ∀ t agg n, E.var t = some (agg, n) → ∃ d i, P.underlying t = some d ∧ isAggD d = agg ∧ P.info? t = some i ∧ i.size = n
  fld : ∀ t f o agg n, E.fld t f = some (o, agg, n) → ∃ fs fd d i, P.underlying t = some (.struct fs) ∧ fs[f]? = some fd ∧ fd.offset = o ∧ P.underlying fd.type = some d ∧ isAggD d = agg ∧ P.info? fd.type = some i ∧ i.size = n ∧ 0 < n
  zero : ∀ t z, E.zero t = some z → ∃ i v, P.info? t = some i ∧ i.zero = some v ∧ v.cells.toList = z ∧ (z.all (·.oneCell')) = true
  strct : ∀ t pl, E.strct t = some pl → ∃ fs, P.underlying t = some (.struct fs) ∧ fs.toList.mapM (fun f => (P.info? f.type).map fun i => (f.offset, i.size)) = some pl
  conv : ∀ s d, match E.conv s d with
    | .int k => (∃ k', P.underlying s = some (.int k')) ∧ P.underlying d = some (.int k)
    | .toStr => ∃ e, P.underlying s = some (.slice e) ∧ P.underlying e = some (.int .u8) ∧ P.underlying d = some .string
    | .mark => s = d ∧ ∃ e, P.underlying s = some (.slice e) ∧ P.underlying e = some (.int .u8)
    | .strId => P.underlying s = some .string ∧ P.underlying d = some .string
    | .no => True
  conc : ∀ t, E.conc t = true → P.concrete t = true
  str : ∀ t, E.str t = true → P.underlying t = some .string
  mixed : P.follows .mixedOrders = true
  bool : ∀ t, E.bool t = true → P.underlying t = some .bool
  ifc : ∀ t, E.ifc t = true → ∃ ms, P.underlying t = some (.interface ms)
  nest : ∀ t pk eb r, E.nest t = some (pk, eb, r) → ∃ e, P.underlying t = some (.slice e) ∧ ∃ i z, P.info? e = some i ∧ i.size = nsz pk ∧ i.zero = some z ∧ z.cells.toList = (match pk with | some k => [.int k 0, .slice none 0 0] | none => [.slice none 0 0])
  err : ∀ t, E.err t = true → P.underlying t = some (.int .i64) ∧ ∃ i, P.info? t = some i ∧ i.comparable = true
  err1 : ∀ t t', E.err t = true → E.err t' = true → t = t'
  ptr : ∀ t, E.ptr t = true → ∃ e, P.underlying t = some (.pointer e)

section
variable {P : Program} {w : World}
theorem run_isAgg {t : TypeId} {d : TypeDesc} (h : P.underlying t = some d) : (isAgg t).run P w = .ok (isAggD d) w := by
  unfold isAgg
  simp only [Sem.run_bind, run_underlying h, Result.andThen_ok]
  cases d <;> rfl
theorem run_sizeOf {t : TypeId} {i : TypeInfo} (h : P.info? t = some i) : (sizeOf t).run P w = .ok i.size w := by
  simp [sizeOf, typeInfo, h]
theorem run_zeroValue {t : TypeId} {i : TypeInfo} {z : Value} (h : P.info? t = some i) (hz : i.zero = some z) : (zeroValue t).run P w = .ok z w := by
  simp [zeroValue, typeInfo, h, hz]
theorem run_loadCells_at {b o : Nat} {l : List Value} (hc : ∀ (j : Nat) (u : Value), l[j]? = some u → w.cell? ⟨b, o + j, none⟩ = some u) : (loadCells ⟨b, o, none⟩ l.length).run P w = .ok l.toArray w :=
  run_loadCells_list (P := P) w ⟨b, o, none⟩ l fun j u hj => by rw [Addr.add_lit]; exact hc j u hj
theorem run_loadVar_agg {t : TypeId} {d : TypeDesc} {i : TypeInfo} (hu : P.underlying t = some d) (hd : isAggD d = true) (hi : P.info? t = some i) {b o : Nat} {l : List Value} (hl : l.length = i.size)
    (hc : ∀ (j : Nat) (u : Value), l[j]? = some u → w.cell? ⟨b, o + j, none⟩ = some u) : (loadVar t ⟨b, o, none⟩).run P w = .ok (.agg l.toArray) w := by
  unfold loadVar
  simp only [Sem.run_bind, run_isAgg hu, Result.andThen_ok, hd, if_true, run_sizeOf hi]
  rw [← hl]
  simp [run_loadCells_at hc]
theorem run_loadVar_one {t : TypeId} {d : TypeDesc} (hu : P.underlying t = some d) (hd : isAggD d = false) {b o : Nat} {u : Value} (hc : w.cell? ⟨b, o, none⟩ = some u) : (loadVar t ⟨b, o, none⟩).run P w = .ok u w := by
  unfold loadVar
  simp only [Sem.run_bind, run_isAgg hu, Result.andThen_ok, hd, Bool.false_eq_true, if_false]
  simp [hc]
theorem run_storeVar_at {t : TypeId} {i : TypeInfo} (hi : P.info? t = some i) {g o : Nat} {cur : Array Value} {e : TypeId} (hg : w.heap[g]? = some (.cells cur e (0, 0))) {v : Value} (hv : v.cells.size = i.size) (ho : o + v.cells.size ≤ cur.size) (h1 : ∀ u ∈ v.cells.toList, u.oneCell' = true) :
    (storeVar t ⟨g, o, none⟩ v).run P w = .ok () (w.setRow g (cur.toList.take o ++ v.cells.toList ++ cur.toList.drop (o + v.cells.size)).toArray) := by
  unfold storeVar
  have := run_storeCells_at P g o e v.cells.toList 0 cur w hg (by simpa using ho) h1
  simp only [Nat.add_zero, Array.length_toList] at this
  simp only [Sem.run_bind, run_sizeOf hi, Result.andThen_ok, hv]
  simp only [ne_eq, not_true_eq_false, if_false]
  rw [hv] at this
  simpa using this
theorem run_part_agg {t : TypeId} {d : TypeDesc} {i : TypeInfo} (hu : P.underlying t = some d) (hd : isAggD d = true) (hi : P.info? t = some i) (cs : Array Value) (o : Nat) : (part t cs o).run P w = .ok (.agg (cs.extract o (o + i.size))) w := by
  unfold part
  simp only [Sem.run_bind, run_isAgg hu, Result.andThen_ok, hd, if_true, run_sizeOf hi]
  simp
theorem run_part_one {t : TypeId} {d : TypeDesc} (hu : P.underlying t = some d) (hd : isAggD d = false) {cs : Array Value} {o : Nat} {u : Value} (hc : cs[o]? = some u) : (part t cs o).run P w = .ok u w := by
  unfold part
  simp only [Sem.run_bind, run_isAgg hu, Result.andThen_ok, hd, Bool.false_eq_true, if_false, hc]
  rfl
/-! ### Filling -/
theorem foldl_set_eq : ∀ (vs : List Value) (o i : Nat) (cs : Array Value), o + i + vs.length ≤ cs.size →
    ((vs.zipIdx i).foldl (fun cs (p : Value × Nat) => cs.setIfInBounds (o + p.2) p.1) cs) = (cs.toList.take (o + i) ++ vs ++ cs.toList.drop (o + i + vs.length)).toArray
  | [], o, i, cs, h => by simp
  | v :: vs, o, i, cs, h => by
    simp only [List.zipIdx_cons, List.foldl_cons]
    rw [foldl_set_eq vs o (i + 1) (cs.setIfInBounds (o + i) v) (by simp at h ⊢; omega)]
    apply Array.ext'
    simp only [Array.toList_setIfInBounds, List.length_cons]
    simp at h
    have e1 : (cs.toList.set (o + i) v).take (o + (i + 1)) = cs.toList.take (o + i) ++ [v] := by
      rw [show o + (i + 1) = (o + i) + 1 by omega, List.take_succ_eq_append_getElem (by simp; omega)]
      congr 1
      · rw [List.take_set]
        exact List.set_eq_of_length_le (by simp; omega)
      · simp
    have e2 : (cs.toList.set (o + i) v).drop (o + (i + 1) + vs.length) = cs.toList.drop (o + i + (vs.length + 1)) := by
      rw [List.drop_set, if_pos (by omega)]
      congr 1
      omega
    rw [e1, e2]
    simp
theorem fill_step (place : Nat → Option (Nat × Nat)) (cs : Array Value) (i : Nat) (v : Value) (rest : List (Nat × Value)) (off size : Nat) (hp : place i = some (off, size)) (hs : v.cells.size = size) (ho : off + size ≤ cs.size) :
    Instr.fill place cs ((i, v) :: rest) = Instr.fill place (cs.toList.take off ++ v.cells.toList ++ cs.toList.drop (off + size)).toArray rest := by
  rw [Instr.fill]
  simp only [hp, hs]
  rw [if_neg (by simp; omega)]
  congr 1
  have h := foldl_set_eq v.cells.toList off 0 cs (by simp [hs]; omega)
  simp only [Nat.add_zero, Array.length_toList, hs] at h
  rw [← h, ← Array.foldl_toList, Array.toList_zipIdx]
end
end Go.AX
