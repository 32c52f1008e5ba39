/- The abstract executor, part 18: what a law is handed, told by shapes. -/
import Derived.Test.YtcfphoffpbncmaaAXA17
import Derived.ChangeOld
import Derived.SizedLaws
set_option linter.unusedVariables false
set_option linter.unusedSimpArgs false
namespace Go.AX
open Go.RowKit
section
variable {P : Program} {w : World} {H : Type} {enc : TypeId × Value → H}
mutual
def Ty.fits (P : Program) : Ty → TypeId → Prop
  | .int k, t => P.underlying t = some (.int k)
  | .bool, t => P.underlying t = some .bool
  | .str, t => P.underlying t = some .string
  | .sl e r, t => P.underlying t = some (.slice e) ∧ P.cellsOf e = r.size ∧ 0 < P.bytesOf e ∧ Row.fits P r e
def Row.fits (P : Program) : Row → TypeId → Prop
  | .one t, e => Ty.fits P t e
  | .cons t r, e => ∃ fs f l, P.underlying e = some (.struct fs) ∧ fs.toList = f :: l ∧ f.offset = 0 ∧ P.cellsOf f.type = 1 ∧ Ty.fits P t f.type ∧ Row.fitsF P r l 1
def Row.fitsF (P : Program) : Row → List Field → Nat → Prop
  | .one t, l, o => ∃ f, l = [f] ∧ f.offset = o ∧ P.cellsOf f.type = 1 ∧ Ty.fits P t f.type
  | .cons t r, l, o => ∃ f m, l = f :: m ∧ f.offset = o ∧ P.cellsOf f.type = 1 ∧ Ty.fits P t f.type ∧ Row.fitsF P r m (o + 1)
end
mutual
/-- What is known of the values beside their shapes: numbers in their kinds' bounds, lengths that memory can hold. -/
def Ty.wf : (t : Ty) → t.den → Prop
  | .int k, n => (Lit.int k n).wf = true
  | .bool, _ => True
  | .str, s => s.size ≤ reachBytes
  | .sl _ r, xs => xs.length ≤ reachBytes ∧ ∀ x, x ∈ xs → Row.wf r x
def Row.wf : (r : Row) → r.den → Prop
  | .one t, x => Ty.wf t x
  | .cons t r, x => Ty.wf t x.1 ∧ Row.wf r x.2
end
theorem list_choose {α : Type} {p : Nat → α → Prop} : ∀ n, (∀ i, i < n → ∃ y, p i y) → ∃ l : List α, l.length = n ∧ ∀ (i : Nat) (x : α), l[i]? = some x → p i x
  | 0, _ => ⟨[], rfl, fun i x h => by simp at h⟩
  | n + 1, h => by
    obtain ⟨l, h1, h2⟩ := list_choose n fun i hi => h i (by omega)
    obtain ⟨y, hy⟩ := h n (by omega)
    refine ⟨l ++ [y], by simp [h1], fun i x hx => ?_⟩
    rw [List.getElem?_append] at hx
    split at hx
    · exact h2 i x hx
    · rename_i hi
      have hlt := (List.getElem?_eq_some_iff.1 hx).1
      simp at hlt
      have : i = n := by omega
      subst this
      simp [h1] at hx
      rw [← hx]
      exact hy
theorem cells_get {a : Addr} {n : Nat} {cs : List Value} (h : w.cells? 0 a n = some cs) : cs.length = n ∧ ∀ (j : Nat) (v : Value), cs[j]? = some v → w.cell? (a.add j) = some v := by
  unfold World.cells? at h
  rw [if_pos (Nat.zero_le _)] at h
  have hl : cs.length = n := by simpa using mapM_some_length h
  refine ⟨hl, fun j v hv => ?_⟩
  have hj := (List.getElem?_eq_some_iff.1 hv).1
  have := mapM_some_get h j j (List.getElem?_range (by omega))
  rw [this, hv]
theorem mem_weightsAll {e : TypeId} {d : DataW H} {m : Nat} : ∀ {l : List (DataW H)}, d ∈ l → m ∈ d.weights P e → m ∈ DataW.weightsAll P e l
  | x :: l, hd, hm => by
    simp only [DataW.weightsAll, List.mem_append]
    rcases List.mem_cons.1 hd with rfl | hd
    · exact .inl hm
    · exact .inr (mem_weightsAll hd hm)
theorem weightsEach_get {N : Nat} : ∀ {ts : List TypeId} {l : List (DataW H)}, (∀ n, n ∈ DataW.weightsEach P ts l → n ≤ N) → ∀ (j : Nat) t d, ts[j]? = some t → l[j]? = some d → ∀ n, n ∈ d.weights P t → n ≤ N
  | t0 :: ts, x :: l, h, 0, t, d, ht, hd, n, hn => by
    simp at ht hd
    subst ht hd
    exact h n (by simp only [DataW.weightsEach, List.mem_append]; exact .inl hn)
  | t0 :: ts, x :: l, h, j + 1, t, d, ht, hd, n, hn => by
    simp at ht hd
    exact weightsEach_get (fun n hn => h n (by simp only [DataW.weightsEach, List.mem_append]; exact .inr hn)) j t d ht hd n hn
  | [], _, _, j, _, _, ht, _, _, _ => by simp at ht
  | _ :: _, [], _, j, _, _, _, hd, _, _ => by simp at hd
abbrev inW (w : World) (b : Nat) : Prop := b < w.heap.size
mutual
theorem Ty.of_trod : (ty : Ty) → ∀ {t : TypeId} {v : Value} {x : DataW H × List MemPlace} {fuel : Nat}, ty.fits P t → DataW.trod enc P w 0 (fun _ => true) true fuel t [v] = some x → (∀ n, n ∈ x.1.weights P t → n ≤ reachBytes) →
    ∃ y : ty.den, ty.rep w (inW w) y v ∧ ty.wf y
  | .int k, t, v, x, fuel, hf, h, hn => by
    unfold Ty.fits at hf
    obtain ⟨n, hc, hx, hw⟩ := DataW.trod_int hf h
    simp at hc
    exact ⟨n, by unfold Ty.rep; exact hc, by unfold Ty.wf; exact hw⟩
  | .bool, t, v, x, fuel, hf, h, hn => by
    unfold Ty.fits at hf
    obtain ⟨n, hc, hx⟩ := DataW.trod_bool hf h
    simp at hc
    exact ⟨n, by unfold Ty.rep; exact hc, by unfold Ty.wf; trivial⟩
  | .str, t, v, x, fuel, hf, h, hn => by
    unfold Ty.fits at hf
    obtain ⟨s, hc, hx, hw⟩ := DataW.trod_string hf h
    simp at hc
    refine ⟨s, by unfold Ty.rep; exact hc, ?_⟩
    unfold Ty.wf
    have := hn s.data.toList.length (by rw [hx]; simp [DataW.weights])
    rwa [Array.length_toList] at this
  | .sl e r, t, v, x, fuel, hf, h, hn => by
    unfold Ty.fits at hf
    obtain ⟨h1, h2, h3, h4⟩ := hf
    rcases DataW.trod_slice h1 h with ⟨hc, hx⟩ | ⟨a, len, cap, elems, rest, n, hfu, hc, hx, _, hl, hm, hel, hee, _, _⟩
    · simp at hc
      refine ⟨[], Ty.rep_sl.2 ⟨none, 0, hc, Nat.le_refl _, .inl rfl⟩, ?_⟩
      unfold Ty.wf
      exact ⟨Nat.zero_le _, fun x hx => by cases hx⟩
    · simp at hc
      rw [hx] at hn
      simp only [DataW.weights, h1, List.mem_cons, List.mem_append] at hn
      have hb := hn _ (.inl rfl)
      have key : ∀ i, i < len → ∃ y : r.den, r.wf y ∧ ∃ cs, w.cells? 0 (a.add (i * r.size)) r.size = some cs ∧ r.rep w (inW w) y cs := by
        intro i hi
        have he := hee i hi
        rw [h2, List.getElem?_eq_getElem (by omega)] at he
        cases hcs : w.cells? 0 (a.add (i * r.size)) r.size with
        | none => rw [hcs] at he; cases he
        | some cs =>
          rw [hcs] at he
          obtain ⟨y, k1, k2⟩ := Row.of_trod r h4 he (cells_get hcs).1 (fun m hm => hn m (.inr (.inl (mem_weightsAll (List.mem_map_of_mem (List.getElem_mem _)) hm))))
          exact ⟨y, k2, cs, rfl, k1⟩
      obtain ⟨xs, hxl, hxs⟩ := list_choose len key
      refine ⟨xs, Ty.rep_sl.2 ⟨some a, cap, by rw [hxl]; exact hc, by omega, ?_⟩, ?_⟩
      · cases hxe : xs with
        | nil => exact .inl rfl
        | cons x0 xs' =>
          right
          have hsz : 0 < r.size := by cases r <;> simp [Row.size]
          have h0 : xs[0]? = some x0 := by rw [hxe]; rfl
          obtain ⟨_, cs0, hc0, _⟩ := hxs 0 x0 h0
          obtain ⟨hl0, hg0⟩ := cells_get hc0
          have hv0 := hg0 0 _ (List.getElem?_eq_getElem (by omega))
          simp only [Nat.zero_mul, Addr.add, if_true] at hv0
          unfold World.cell? at hv0
          split at hv0
          · rename_i c el fz hblk
            split at hv0
            · cases hv0
            · rename_i hsp
              obtain ⟨b, o, sp⟩ := a
              cases sp with
              | some s => exact (hsp rfl).elim
              | none =>
                refine ⟨b, o, rfl, (Array.getElem?_eq_some_iff.1 hblk).1, c, el, fz, hblk, fun i x hi => ?_⟩
                rw [← hxe] at hi
                obtain ⟨_, cs, hcs, hrep⟩ := hxs i x hi
                obtain ⟨hcl, hcg⟩ := cells_get hcs
                have : (c.toList.drop (o + i * r.size)).take r.size = cs := by
                  have hget : ∀ j, j < r.size → c[o + i * r.size + j]? = cs[j]? := fun j hj => by
                    have h5 := hcg j _ (List.getElem?_eq_getElem (by omega))
                    rw [List.getElem?_eq_getElem (by omega : j < cs.length)]
                    have : ((⟨b, o, none⟩ : Addr).add (i * r.size)).add j = ⟨b, o + i * r.size + j, none⟩ := by
                      unfold Addr.add
                      split <;> split <;> simp_all
                    rw [this] at h5
                    simpa [World.cell?, hblk] using h5
                  apply List.ext_getElem?
                  intro j
                  by_cases hj : j < r.size
                  · rw [List.getElem?_take_of_lt hj, List.getElem?_drop, ← hget j hj, Array.getElem?_toList]
                  · rw [List.getElem?_eq_none (by simp; omega), List.getElem?_eq_none (by omega)]
                rw [this]
                exact hrep
          · cases hv0
      · unfold Ty.wf
        refine ⟨?_, fun x hx => ?_⟩
        · rw [hxl]
          simp only [List.length_map] at hb
          have : len * 1 ≤ (elems.length + rest.length) * P.bytesOf e := Nat.mul_le_mul (by omega) h3
          omega
        · obtain ⟨i, hi⟩ := List.getElem?_of_mem hx
          exact (hxs i x hi).1
theorem Row.of_trod : (r : Row) → ∀ {e : TypeId} {cs : List Value} {x : DataW H × List MemPlace} {fuel : Nat}, r.fits P e → DataW.trod enc P w 0 (fun _ => true) true fuel e cs = some x → cs.length = r.size → (∀ n, n ∈ x.1.weights P e → n ≤ reachBytes) →
    ∃ y : r.den, r.rep w (inW w) y cs ∧ r.wf y
  | .one t, e, cs, x, fuel, hf, h, hl, hn => by
    match cs, hl with
    | [v], _ =>
      unfold Row.fits at hf
      obtain ⟨y, h1, h2⟩ := Ty.of_trod t hf h hn
      exact ⟨y, by unfold Row.rep; exact ⟨v, rfl, h1⟩, by unfold Row.wf; exact h2⟩
  | .cons t r, e, cs, x, fuel, hf, h, hl, hn => by
    unfold Row.fits at hf
    obtain ⟨fs, f, l, hu, hfs, ho, hc, hft, hfr⟩ := hf
    obtain ⟨xs, n, hfu, hx, hcl, hxl, hall⟩ := DataW.trod_struct hu h
    match cs, hl with
    | v :: cs', hl =>
      have hl' : cs'.length = r.size := by simpa [Row.size] using hl
      rw [hx] at hn
      simp only [DataW.weights, hu] at hn
      have hlen : fs.toList.length = fs.size := by simp
      have key : ∀ (j : Nat) (g : Field), fs.toList[j]? = some g → ∀ y, xs[j]? = some y → ∀ m, m ∈ y.1.weights P g.type → m ≤ reachBytes := fun j g hg y hy m hm =>
        weightsEach_get hn j g.type y.1 (by simp [hg]) (by simp [hy]) m hm
      have hall' : ∀ (j : Nat) (g : Field), fs.toList[j]? = some g → ∃ y, xs[j]? = some y ∧ DataW.trod enc P w 0 (fun _ => true) true n g.type (((v :: cs').drop g.offset).take (P.cellsOf g.type)) = some y := fun j g hg => by
        have hj := (List.getElem?_eq_some_iff.1 hg).1
        have := hall j g (by simpa using hg)
        rw [List.getElem?_eq_getElem (by omega)] at this
        exact ⟨_, List.getElem?_eq_getElem (by omega), this⟩
      obtain ⟨y0, hy0, ht0⟩ := hall' 0 f (by rw [hfs]; rfl)
      rw [ho, hc] at ht0
      obtain ⟨a, ha, hwa⟩ := Ty.of_trod t hft ht0 (key 0 f (by rw [hfs]; rfl) y0 hy0)
      obtain ⟨b, hb, hwb⟩ := Row.of_fields r l 1 (v :: cs') hfr (by simp; omega) (fun j g hg => by
        obtain ⟨y, hy, hty⟩ := hall' (j + 1) g (by rw [hfs]; simpa using hg)
        exact ⟨n, y, hty, key (j + 1) g (by rw [hfs]; simpa using hg) y hy⟩)
      exact ⟨(a, b), by unfold Row.rep; exact ⟨v, cs', rfl, ha, hb⟩, by unfold Row.wf; exact ⟨hwa, hwb⟩⟩
theorem Row.of_fields : (r : Row) → ∀ (l : List Field) (o : Nat) (cs : List Value), Row.fitsF P r l o → cs.length = o + r.size →
    (∀ (j : Nat) (g : Field), l[j]? = some g → ∃ (n : Nat) (y : DataW H × List MemPlace), DataW.trod enc P w 0 (fun _ => true) true n g.type ((cs.drop g.offset).take (P.cellsOf g.type)) = some y ∧ ∀ m, m ∈ y.1.weights P g.type → m ≤ reachBytes) →
    ∃ y : r.den, r.rep w (inW w) y (cs.drop o) ∧ r.wf y
  | .one t, l, o, cs, hf, hl, hall => by
    unfold Row.fitsF at hf
    obtain ⟨f, rfl, ho, hc, hft⟩ := hf
    obtain ⟨n, y, h1, h2⟩ := hall 0 f rfl
    simp only [Row.size] at hl
    rw [ho, hc] at h1
    have hd : (cs.drop o).length = 1 := by simp; omega
    match hq : cs.drop o, hd with
    | [v], _ =>
      rw [hq] at h1
      obtain ⟨a, ha, hwa⟩ := Ty.of_trod t hft h1 h2
      exact ⟨a, by unfold Row.rep; exact ⟨v, rfl, ha⟩, by unfold Row.wf; exact hwa⟩
  | .cons t r, l, o, cs, hf, hl, hall => by
    unfold Row.fitsF at hf
    obtain ⟨f, m, rfl, ho, hc, hft, hfr⟩ := hf
    obtain ⟨n, y, h1, h2⟩ := hall 0 f rfl
    simp only [Row.size] at hl
    rw [ho, hc] at h1
    have hd : (cs.drop o).length = r.size + 1 := by simp; omega
    match hq : cs.drop o, hd with
    | v :: l', hd =>
      rw [hq] at h1
      obtain ⟨a, ha, hwa⟩ := Ty.of_trod t hft h1 h2
      obtain ⟨b, hb, hwb⟩ := Row.of_fields r m (o + 1) cs hfr (by omega) (fun j g hg => hall (j + 1) g (by simpa using hg))
      have : cs.drop (o + 1) = l' := by
        rw [← List.drop_drop, hq]
        rfl
      rw [this] at hb
      exact ⟨(a, b), by unfold Row.rep; exact ⟨v, l', rfl, ha, hb⟩, by unfold Row.wf; exact ⟨hwa, hwb⟩⟩
end
theorem calls_of_spec {f : FuncId} {args : Array Value} {T : Value → World → Prop} (he : Enters P f) (h : CallP P f args w T) : Calls P f args w fun e w' => ∃ v, e = .returned v ∧ T v w' := by
  rcases h with ⟨_, h⟩ | ⟨v, w', h, _⟩
  · exact h
  · rw [he args w] at h
    injection h with h
    cases h
/-- A law's call: it answers true and leaves what was there. -/
theorem law_calls {f : Nat} {S : PSpec} (hs : SpecOk P f S) (he : Enters P f) {args : List TV} {vs : List Value} (hc : TV.cons w (.of (inW w)) args vs []) (h1 : (S args).1) (h2 : (S args).2 = [.c (.v (.bool true))]) :
    Calls P f vs.toArray w fun e w' => e = .returned (.bool true) ∧ Below w.heap.size w w' := by
  refine (calls_of_spec he (hs args vs w (.of (inW w)) (fun b hb => hb) (fun b hb => hb) hc h1)).mono fun e w' ⟨v, hv, us, hu, ⟨os, hr, _, _⟩, hB⟩ => ?_
  rw [h2] at hr
  match us, hr with
  | [u], ⟨o1, o2, ho, hr, _⟩ =>
    have hb : u = .bool true := hr.1.1
    refine ⟨?_, hB⟩
    rw [hv, hu, hb]
    rfl
theorem weights_of {ts : List TypeId} {ds : List (DataW H)} (h : (DataW.weightsEach P ts ds).all (· ≤ reachBytes) = true) {j : Nat} {t : TypeId} {d : DataW H} (ht : ts[j]? = some t) (hd : ds[j]? = some d) : ∀ n, n ∈ d.weights P t → n ≤ reachBytes := fun n hn => by
  have := List.all_eq_true.1 h _ (DataW.weights_mem_each ht hd n hn)
  simpa using this
end
end Go.AX
