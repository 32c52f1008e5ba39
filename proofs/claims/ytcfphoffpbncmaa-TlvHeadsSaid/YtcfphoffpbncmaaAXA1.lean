/- The abstract executor, part 1: what an abstract value says of a value in memory, and how that lasts while the world turns. -/
import Derived.Test.YtcfphoffpbncmaaAXA0
set_option linter.unusedVariables false
namespace Go.AX

mutual
def Ty.rep (w : World) (ok : Nat → Prop) : (t : Ty) → t.den → Value → Prop
  | .int k, n, v => v = .int k n
  | .bool, b, v => v = .bool b
  | .str, s, v => v = .string s
  | .sl _ r, xs, v => ∃ A c, v = .slice A xs.length c ∧ xs.length ≤ c ∧ (xs = [] ∨ ∃ b o, A = some ⟨b, o, none⟩ ∧ ok b ∧
      ∃ cells e fz, w.heap[b]? = some (.cells cells e fz) ∧ ∀ (i : Nat) (x : r.den), xs[i]? = some x → Row.rep w ok r x ((cells.toList.drop (o + i * r.size)).take r.size))
def Row.rep (w : World) (ok : Nat → Prop) : (r : Row) → r.den → List Value → Prop
  | .one t, x, l => ∃ v, l = [v] ∧ Ty.rep w ok t x v
  | .cons t r, x, l => ∃ v m, l = v :: m ∧ Ty.rep w ok t x.1 v ∧ Row.rep w ok r x.2 m
end
/-- A row's elements lie from place o on in block b. -/
def rowAt (w : World) (bo ok : Nat → Prop) (r : Row) (b o : Nat) (xs : List r.den) : Prop :=
  bo b ∧ ∃ cells e fz, w.heap[b]? = some (.cells cells e fz) ∧ ∀ (i : Nat) (x : r.den), xs[i]? = some x → r.rep w ok x ((cells.toList.drop (o + i * r.size)).take r.size)
def slRep (w : World) (ok : Nat → Prop) (r : Row) (xs : List r.den) (v : Value) : Prop :=
  ∃ A c, v = .slice A xs.length c ∧ xs.length ≤ c ∧ (xs = [] ∨ ∃ b o, A = some ⟨b, o, none⟩ ∧ rowAt w ok ok r b o xs)
def bsRep (w : World) (bo ok : Nat → Prop) (r : Row) (xs : List r.den) (v : Value) : Prop :=
  ∃ A c, v = .slice A xs.length c ∧ xs.length ≤ c ∧ (xs = [] ∨ ∃ b o, A = some ⟨b, o, none⟩ ∧ rowAt w bo ok r b o xs)
theorem Ty.rep_sl {w : World} {ok : Nat → Prop} {e : TypeId} {r : Row} {xs : List r.den} {v : Value} : Ty.rep w ok (.sl e r) xs v ↔ slRep w ok r xs v := by
  unfold Ty.rep slRep rowAt
  exact Iff.rfl
/-- What may be read stays: same cells. -/
def Stays (w w' : World) (ok ok' : Nat → Prop) : Prop := ∀ b, ok b → ok' b ∧ ∀ c e fz, w.heap[b]? = some (.cells c e fz) → ∃ fz', w'.heap[b]? = some (.cells c e fz')
mutual
theorem Ty.rep_mono {w w' : World} {ok ok' : Nat → Prop} (h : Stays w w' ok ok') : (t : Ty) → (x : t.den) → (v : Value) → t.rep w ok x v → t.rep w' ok' x v
  | .int _, _, _, hr => hr
  | .bool, _, _, hr => hr
  | .str, _, _, hr => hr
  | .sl e r, xs, v, hr => by
    unfold Ty.rep at hr ⊢
    obtain ⟨A, c, hv, hl, hx⟩ := hr
    refine ⟨A, c, hv, hl, hx.imp id ?_⟩
    rintro ⟨b, o, hA, hb, cells, e', fz, hc, hall⟩
    obtain ⟨fz', hc'⟩ := (h b hb).2 _ _ _ hc
    exact ⟨b, o, hA, (h b hb).1, cells, e', fz', hc', fun i x hi => Row.rep_mono h r x _ (hall i x hi)⟩
theorem Row.rep_mono {w w' : World} {ok ok' : Nat → Prop} (h : Stays w w' ok ok') : (r : Row) → (x : r.den) → (l : List Value) → r.rep w ok x l → r.rep w' ok' x l
  | .one t, x, l, hr => by
    unfold Row.rep at hr ⊢
    obtain ⟨v, hl, hv⟩ := hr
    exact ⟨v, hl, Ty.rep_mono h t x v hv⟩
  | .cons t r, x, l, hr => by
    unfold Row.rep at hr ⊢
    obtain ⟨v, m, hl, hv, hm⟩ := hr
    exact ⟨v, m, hl, Ty.rep_mono h t x.1 v hv, Row.rep_mono h r x.2 m hm⟩
end
theorem slRep.mono {w w' : World} {ok ok' : Nat → Prop} (h : Stays w w' ok ok') {r : Row} {xs : List r.den} {v : Value} (hr : slRep w ok r xs v) : slRep w' ok' r xs v := by
  have := Ty.rep_mono h (.sl 0 r) xs v (Ty.rep_sl.2 hr)
  exact Ty.rep_sl.1 this
theorem rowAt.mono {w w' : World} {bo bo' ok ok' : Nat → Prop} (h2 : Stays w w' bo bo') (h : Stays w w' ok ok') {r : Row} {b o : Nat} {xs : List r.den} (hr : rowAt w bo ok r b o xs) : rowAt w' bo' ok' r b o xs := by
  obtain ⟨hb, c, e, fz, hc, hall⟩ := hr
  obtain ⟨fz', hc'⟩ := (h2 b hb).2 _ _ _ hc
  exact ⟨(h2 b hb).1, c, e, fz', hc', fun i x hi => Row.rep_mono h r x _ (hall i x hi)⟩
theorem bsRep.mono {w w' : World} {bo bo' ok ok' : Nat → Prop} (h2 : Stays w w' bo bo') (h : Stays w w' ok ok') {r : Row} {xs : List r.den} {v : Value} (hr : bsRep w bo ok r xs v) : bsRep w' bo' ok' r xs v := by
  obtain ⟨A, c, hv, hl, hx⟩ := hr
  exact ⟨A, c, hv, hl, hx.imp id fun ⟨b, o, hA, hrow⟩ => ⟨b, o, hA, hrow.mono h2 h⟩⟩
theorem slRep.bs {w : World} {ok : Nat → Prop} {r : Row} {xs : List r.den} {v : Value} (hr : slRep w ok r xs v) : bsRep w ok ok r xs v := hr
theorem bsRep.nil {w : World} {bo ok : Nat → Prop} {r : Row} : bsRep w bo ok r [] (.slice none 0 0) := ⟨none, 0, rfl, Nat.le_refl _, .inl rfl⟩
theorem Row.rep_len {w : World} {ok : Nat → Prop} : (r : Row) → (x : r.den) → (l : List Value) → r.rep w ok x l → l.length = r.size
  | .one t, x, l, hr => by
    unfold Row.rep at hr
    obtain ⟨v, rfl, _⟩ := hr
    rfl
  | .cons t r, x, l, hr => by
    unfold Row.rep at hr
    obtain ⟨v, m, rfl, _, hm⟩ := hr
    simp [Row.size, Row.rep_len r x.2 m hm]
theorem Ty.rep_one {w : World} {ok : Nat → Prop} : (t : Ty) → (x : t.den) → (v : Value) → t.rep w ok x v → v.oneCell' = true
  | .int _, _, _, hr => by unfold Ty.rep at hr; subst hr; rfl
  | .bool, _, _, hr => by unfold Ty.rep at hr; subst hr; rfl
  | .str, _, _, hr => by unfold Ty.rep at hr; subst hr; rfl
  | .sl _ _, _, _, hr => by unfold Ty.rep at hr; obtain ⟨A, c, rfl, _⟩ := hr; rfl
theorem Row.rep_one {w : World} {ok : Nat → Prop} : (r : Row) → (x : r.den) → (l : List Value) → r.rep w ok x l → ∀ v ∈ l, v.oneCell' = true
  | .one t, x, l, hr => by
    unfold Row.rep at hr
    obtain ⟨v, rfl, hv⟩ := hr
    intro u hu
    rw [List.mem_singleton.1 hu]
    exact t.rep_one _ _ hv
  | .cons t r, x, l, hr => by
    unfold Row.rep at hr
    obtain ⟨v, m, rfl, hv, hm⟩ := hr
    intro u hu
    rcases List.mem_cons.1 hu with rfl | hu
    · exact t.rep_one _ _ hv
    · exact r.rep_one _ _ hm u hu

/-! ### States in memory -/
/-- Where objects lie; out: blocks that are nobody's to read here. -/
abbrev Fp := Nat → Option (Nat × Nat)
structure Bs where
  f : Nat → Fp
  out : Nat → Prop
abbrev Bs.main (β : Bs) (id : Nat) : Option (Nat × Nat) := β.f id 0
instance : CoeFun Bs (fun _ => Nat → Option (Nat × Nat)) := ⟨Bs.main⟩
def live (hp : List Obj) (id : Nat) : Prop := match hget hp id with
  | .row .. => True
  | .box .. => True
  | .nest .. => True
  | .zbox .. => True
  | _ => False
/-- Which blocks are an object's own. -/
def fpO : Obj → Nat → Prop
  | .row .., j => j = 0
  | .box .., j => j = 0
  | .zbox .., j => j = 0
  | .nest _ _ _ _ xs ov, j => j ≤ xs.length ∧ ∀ p, ov = some p → j ≠ p.1 + 1
  | _, _ => False
abbrev fp (hp : List Obj) (id j : Nat) : Prop := fpO (hget hp id) j
theorem fp_live {hp : List Obj} {id j : Nat} (h : fp hp id j) : live hp id := by
  unfold fp fpO at h
  unfold live
  revert h
  cases hget hp id <;> simp
theorem live_fp {hp : List Obj} {id : Nat} (h : live hp id) : fp hp id 0 := by
  unfold live at h
  unfold fp fpO
  revert h
  cases hget hp id <;> simp
def mutb (β : Bs) (hp : List Obj) (b : Nat) : Prop := ∃ id j c, fp hp id j ∧ β.f id j = some (b, c)
def imm (w : World) (β : Bs) (hp : List Obj) (b : Nat) : Prop := b < w.heap.size ∧ ¬ mutb β hp b ∧ ¬ β.out b
def nomut (w : World) (β : Bs) (hp : List Obj) (b : Nat) : Prop := b < w.heap.size ∧ ¬ mutb β hp b
def errV (t : TypeId) (c : Int) : Value := if c = 0 then .nilIface else .iface t (.int .i64 c)
theorem errV_one (t : TypeId) (c : Int) : (errV t c).oneCell' = true := by
  unfold errV
  split <;> rfl
def ownVal : Option (Nat × Nat) → Nat → Value
  | none, _ => .slice none 0 0
  | some (g, c), n => .slice (some ⟨g, 0, none⟩) n c
def repL {α β : Type} (R : α → β → Prop) : List α → List β → Prop
  | [], [] => True
  | a :: l, b :: m => R a b ∧ repL R l m
  | _, _ => False
def CV.rep (w : World) (β : Bs) (hp : List Obj) : CV → Value → Prop
  | .v x, u => u = x ∧ u.oneCell' = true
  | .sl _ r xs, u => slRep w (imm w β hp) r xs u
  | .own id, u => id < hp.length ∧ match hget hp id with
    | .row _ _ xs => u = ownVal (β id) xs.length
    | .fro _ r xs => slRep w (imm w β hp) r xs u
    | .nest _ _ _ _ xs _ => u = ownVal (β id) xs.length
    | _ => True
  | .ptr id off, u => id < hp.length ∧ match hget hp id with
    | .box .. => ∃ g c, β id = some (g, c) ∧ u = .pointer (some ⟨g, off, none⟩)
    | .zbox .. => ∃ g c, β id = some (g, c) ∧ u = .pointer (some ⟨g, off, none⟩)
    | _ => True
  | .rptr r xs i off, u => (0 ≤ i ∧ i < xs.length) ∧ ∃ b o, u = .pointer (some ⟨b, o + i.toNat * r.size + off, none⟩) ∧ rowAt w (nomut w β hp) (imm w β hp) r b o xs
  | .eptr id i off, u => id < hp.length ∧ match hget hp id with
    | .row _ r xs => (0 ≤ i ∧ i < xs.length) ∧ ∃ g c, β id = some (g, c) ∧ u = .pointer (some ⟨g, i.toNat * r.size + off, none⟩)
    | .nest _ pk _ r xs _ => (0 ≤ i ∧ i < xs.length) ∧ ∃ g c, β id = some (g, c) ∧ u = .pointer (some ⟨g, i.toNat * nsz pk + off, none⟩)
    | _ => True
  | .clo f r x, u => ∃ b o, u = .func (.func f) #[] #[.pointer (some ⟨b, o, none⟩)] ∧ rowAt w (nomut w β hp) (imm w β hp) r b o [x]
  | .any, _ => True
  | .bs r xs, u => bsRep w (nomut w β hp) (imm w β hp) r xs u
  | .er t c, u => u = errV t c
  | .qb p q, u => ∃ b, u = .bool b ∧ (b = true → p) ∧ (b = false → q)
def SV.rep (w : World) (β : Bs) (hp : List Obj) : SV → Value → Prop
  | .c x, v => x.rep w β hp v
  | .agg cs, v => ∃ l : List Value, v = .agg l.toArray ∧ repL (CV.rep w β hp) cs l
def AV.rep (w : World) (β : Bs) (hp : List Obj) : AV → Value → Prop
  | .s x, v => x.rep w β hp v
  | .tup xs, v => ∃ l : List Value, v = .tuple l.toArray ∧ repL (SV.rep w β hp) xs l
/-- A row that the call made: where it lies, what it holds. -/
def rowObj (w : World) (ok : Nat → Prop) (o : Option (Nat × Nat)) (e : TypeId) (r : Row) (xs : List r.den) : Prop :=
  (o = none ∧ xs = []) ∨ ∃ g cap cells, o = some (g, cap) ∧ w.heap[g]? = some (.cells cells e (0, 0)) ∧ cells.size = cap * r.size ∧ xs.length ≤ cap ∧ cap ≤ maxLen ∧
    ∀ (i : Nat) (x : r.den), xs[i]? = some x → r.rep w ok x ((cells.toList.drop (i * r.size)).take r.size)
def boxObj (w : World) (β : Bs) (hp : List Obj) (o : Option (Nat × Nat)) (e : TypeId) (cs : List CV) : Prop :=
  ∃ g c cells, o = some (g, c) ∧ w.heap[g]? = some (.cells cells e (0, 0)) ∧ repL (CV.rep w β hp) cs cells.toList ∧ ∀ v ∈ cells.toList, v.oneCell' = true
/-- A row whose elements have rows of their own. -/
def nestO (w : World) (ok : Nat → Prop) (F : Fp) (e : TypeId) (pk : Option IntKind) (eb : TypeId) (r : Row) (xs : List (Int × List r.den)) (ov : Option (Nat × (Value → Prop))) : Prop :=
  ∃ g cap cells, F 0 = some (g, cap) ∧ w.heap[g]? = some (.cells cells e (0, 0)) ∧ cells.size = cap * nsz pk ∧ xs.length ≤ cap ∧ cap ≤ maxLen ∧ (∀ q, ov = some q → q.1 < xs.length) ∧
    ∀ (i : Nat) (x : Int × List r.den), xs[i]? = some x → (∀ k, pk = some k → cells[i * nsz pk]? = some (.int k x.1)) ∧
      ∃ u, cells[i * nsz pk + nbo pk]? = some u ∧ (∀ q, ov = some q → q.1 = i → q.2 u) ∧ ((∀ q, ov = some q → q.1 ≠ i) → u = ownVal (F (i + 1)) x.2.length ∧ rowObj w ok (F (i + 1)) eb r x.2)
def ObjRep (w : World) (β : Bs) (hp : List Obj) (id : Nat) : Prop := match hget hp id with
  | .row e r xs => rowObj w (imm w β hp) (β id) e r xs
  | .box e cs => boxObj w β hp (β id) e cs
  | .zbox e cs => β id = none ∨ boxObj w β hp (β id) e cs
  | .nest e pk eb r xs ov => nestO w (imm w β hp) (β.f id) e pk eb r xs (ov.map fun q => (q.1, q.2.rep w β hp))
  | _ => True
structure HRep (w : World) (β : Bs) (hp : List Obj) : Prop where
  obj : ∀ id, id < hp.length → ObjRep w β hp id
  diss : ∀ id id' j j' g c c', fp hp id j → fp hp id' j' → β.f id j = some (g, c) → β.f id' j' = some (g, c') → id = id' ∧ j = j'
  nos : ∀ id j g c, fp hp id j → β.f id j = some (g, c) → ¬ β.out g
  old : ∀ b, β.out b → b < w.heap.size
theorem HRep.dis {w : World} {β : Bs} {hp : List Obj} (h : HRep w β hp) : ∀ id id' g c c', live hp id → live hp id' → β id = some (g, c) → β id' = some (g, c') → id = id' :=
  fun id id' g c c' h1 h2 h3 h4 => (h.diss id id' 0 0 g c c' (live_fp h1) (live_fp h2) h3 h4).1
theorem HRep.no {w : World} {β : Bs} {hp : List Obj} (h : HRep w β hp) : ∀ id g c, live hp id → β id = some (g, c) → ¬ β.out g :=
  fun id g c h1 h2 => h.nos id 0 g c (live_fp h1) h2
structure SRep (w : World) (β : Bs) (st : St) (a : Act) : Prop where
  hp : HRep w β st.hp
  size : a.tmps.size = st.n
  sl : ∀ t, t < st.n → (st.sl t).rep w β st.hp (a.tmps.getD t undef)
  defers : a.defers = []
/-- What becomes of an object while the world turns. -/
def ObjEvo (s : Prop) (w' : World) (ok' : Nat → Prop) (b b' : Option (Nat × Nat)) : Obj → Obj → Prop
  | .row e r xs, .row e' r' xs' => e' = e ∧ b' = b ∧ ∃ h : r = r', xs'.length = xs.length
  | .row e r xs, .fro e' r' xs' => slRep w' ok' r' xs' (ownVal b xs.length)
  | .fro e r xs, .fro e' r' xs' => ∃ h : r = r', h ▸ xs = xs'
  | .box e cs, .box e' cs' => b' = b
  | .nest e pk eb r xs ov, .nest e' pk' eb' r' xs' ov' => e' = e ∧ pk' = pk ∧ eb' = eb ∧ r' = r ∧ b' = b ∧ xs'.length = xs.length
  | .zbox e cs, .zbox e' cs' => e' = e ∧ cs' = cs ∧ (b' = b ∨ (b = none ∧ ¬ s))
  | .zbox e cs, .box e' cs' => (b' = b ∧ b ≠ none) ∨ (b = none ∧ ¬ s)
  | .zbox .., .gone => b ≠ none ∨ ¬ s
  | .row .., .gone | .fro .., .gone | .box .., .gone | .gone, .gone | .nest .., .gone => True
  | _, _ => False
structure EvoS (s : Prop) (w : World) (β : Bs) (hp : List Obj) (w' : World) (β' : Bs) (hp' : List Obj) : Prop where
  os : w'.os = w.os
  tape : w'.tape = w.tape
  output : w'.output = w.output
  size : w.heap.size ≤ w'.heap.size
  ext : ∀ b, b < w.heap.size → ¬ mutb β hp b → w'.heap[b]? = w.heap[b]?
  fresh : ∀ b, mutb β' hp' b → mutb β hp b ∨ w.heap.size ≤ b
  len : hp.length ≤ hp'.length
  out : β'.out = β.out
  obj : ∀ id, id < hp.length → ObjEvo s w' (imm w' β' hp') (β id) (β' id) (hget hp id) (hget hp' id)
abbrev Evo := EvoS True

theorem EvoS.stays {s : Prop} {w : World} {β : Bs} {hp : List Obj} {w' : World} {β' : Bs} {hp' : List Obj} (h : EvoS s w β hp w' β' hp') : Stays w w' (imm w β hp) (imm w' β' hp') := by
  intro b hb
  refine ⟨⟨Nat.lt_of_lt_of_le hb.1 h.size, fun hm => ?_, by rw [h.out]; exact hb.2.2⟩, fun c e fz hc => ⟨fz, by rw [h.ext b hb.1 hb.2.1]; exact hc⟩⟩
  rcases h.fresh b hm with hm | hm
  · exact hb.2.1 hm
  · exact absurd hb.1 (by omega)
theorem EvoS.stays2 {s : Prop} {w : World} {β : Bs} {hp : List Obj} {w' : World} {β' : Bs} {hp' : List Obj} (h : EvoS s w β hp w' β' hp') : Stays w w' (nomut w β hp) (nomut w' β' hp') := by
  intro b hb
  refine ⟨⟨Nat.lt_of_lt_of_le hb.1 h.size, fun hm => ?_⟩, fun c e fz hc => ⟨fz, by rw [h.ext b hb.1 hb.2]; exact hc⟩⟩
  rcases h.fresh b hm with hm | hm
  · exact hb.2 hm
  · exact absurd hb.1 (by omega)
theorem imm_nomut {w : World} {β : Bs} {hp : List Obj} {b : Nat} (h : imm w β hp b) : nomut w β hp b := ⟨h.1, h.2.1⟩
theorem Stays.sub {w : World} {ok ok' : Nat → Prop} (h : ∀ b, ok b → ok' b) : Stays w w ok ok' := fun b hb => ⟨h b hb, fun c e fz hc => ⟨fz, hc⟩⟩
theorem ObjEvo.refl {s : Prop} {w : World} {ok : Nat → Prop} {b : Option (Nat × Nat)} (o : Obj) : ObjEvo s w ok b b o o := by
  cases o
  · exact ⟨rfl, rfl, rfl, rfl⟩
  · exact ⟨rfl, rfl⟩
  · exact rfl
  · exact trivial
  · exact ⟨rfl, rfl, rfl, rfl, rfl, rfl⟩
  · exact ⟨rfl, rfl, .inl rfl⟩
theorem EvoS.refl {s : Prop} (w : World) (β : Bs) (hp : List Obj) : EvoS s w β hp w β hp :=
  ⟨rfl, rfl, rfl, Nat.le_refl _, fun _ _ _ => rfl, fun _ h => .inl h, Nat.le_refl _, rfl, fun _ _ => ObjEvo.refl _⟩
theorem EvoS.trans {s : Prop} {w : World} {β : Bs} {hp : List Obj} {w1 : World} {β1 : Bs} {hp1 : List Obj} {w2 : World} {β2 : Bs} {hp2 : List Obj} (h : EvoS s w β hp w1 β1 hp1) (k : EvoS s w1 β1 hp1 w2 β2 hp2) : EvoS s w β hp w2 β2 hp2 where
  os := k.os.trans h.os
  tape := k.tape.trans h.tape
  output := k.output.trans h.output
  size := Nat.le_trans h.size k.size
  ext := fun b hb hm => (k.ext b (Nat.lt_of_lt_of_le hb h.size) (fun hm1 => (h.fresh b hm1).elim hm (fun h => by omega))).trans (h.ext b hb hm)
  fresh := fun b hm => (k.fresh b hm).elim (h.fresh b) (fun hs => .inr (Nat.le_trans h.size hs))
  len := Nat.le_trans h.len k.len
  out := k.out.trans h.out
  obj := fun id hid => by
    have h1 := h.obj id hid
    have h2 := k.obj id (Nat.lt_of_lt_of_le hid h.len)
    revert h1 h2
    generalize hget hp id = o0
    generalize hget hp1 id = o1
    generalize hget hp2 id = o2
    intro h1 h2
    cases o0 <;> cases o1 <;> try exact h1.elim
    all_goals cases o2 <;> try exact h2.elim
    all_goals try exact trivial
    · obtain ⟨e1, b1, rfl, l1⟩ := h1
      obtain ⟨e2, b2, rfl, l2⟩ := h2
      exact ⟨e2.trans e1, b2.trans b1, rfl, l2.trans l1⟩
    · obtain ⟨e1, b1, rfl, l1⟩ := h1
      have h2 : slRep w2 (imm w2 β2 hp2) _ _ (ownVal (β1 id) _) := h2
      rw [b1, l1] at h2
      exact h2
    · obtain ⟨rfl, rfl⟩ := h2
      exact slRep.mono k.stays h1
    · obtain ⟨rfl, rfl⟩ := h1
      obtain ⟨rfl, rfl⟩ := h2
      exact ⟨rfl, rfl⟩
    · exact h2.trans h1
    · obtain ⟨a1, a2, a3, a4, a5, a6⟩ := h1
      obtain ⟨b1, b2, b3, b4, b5, b6⟩ := h2
      exact ⟨b1.trans a1, b2.trans a2, b3.trans a3, b4.trans a4, b5.trans a5, b6.trans a6⟩
    · rcases h1 with ⟨a1, a2⟩ | a
      · exact .inl ⟨h2.trans a1, a2⟩
      · exact .inr a
    · rcases h1 with ⟨a1, a2⟩ | a
      · exact .inl a2
      · exact .inr a.2
    · exact h1
    · obtain ⟨_, _, a | a⟩ := h1
      · rw [a] at h2
        exact h2
      · exact .inr a
    · obtain ⟨_, _, a | a⟩ := h1
      · rw [a] at h2
        exact h2
      · exact .inr a.2
    · obtain ⟨a1, a2, a | a⟩ := h1
      · obtain ⟨b1, b2, b3⟩ := h2
        rw [a] at b3
        exact ⟨b1.trans a1, b2.trans a2, b3⟩
      · obtain ⟨b1, b2, b3⟩ := h2
        exact ⟨b1.trans a1, b2.trans a2, .inr a⟩
theorem EvoS.cv {s : Prop} {w : World} {β : Bs} {hp : List Obj} {w' : World} {β' : Bs} {hp' : List Obj} (h : EvoS s w β hp w' β' hp') {x : CV} {v : Value} (hr : x.rep w β hp v) : x.rep w' β' hp' v := by
  cases x with
  | v y => exact hr
  | sl e r xs => exact slRep.mono h.stays hr
  | own id =>
    refine ⟨Nat.lt_of_lt_of_le hr.1 h.len, ?_⟩
    have h1 := h.obj id hr.1
    have h2 := hr.2
    revert h1 h2
    generalize hget hp id = o0
    generalize hget hp' id = o1
    intro h1 h2
    cases o0 <;> cases o1 <;> try exact h1.elim
    all_goals try exact trivial
    · obtain ⟨_, b1, rfl, l1⟩ := h1
      show v = _
      rw [b1, l1]
      exact h2
    · have h2 : v = _ := h2
      rw [h2]
      exact h1
    · obtain ⟨rfl, rfl⟩ := h1
      exact slRep.mono h.stays h2
    · obtain ⟨_, _, _, _, b1, l1⟩ := h1
      show v = _
      rw [b1, l1]
      exact h2
  | ptr id off =>
    refine ⟨Nat.lt_of_lt_of_le hr.1 h.len, ?_⟩
    have h1 := h.obj id hr.1
    have h2 := hr.2
    revert h1 h2
    generalize hget hp id = o0
    generalize hget hp' id = o1
    intro h1 h2
    cases o0 <;> cases o1 <;> try exact h1.elim
    all_goals try exact trivial
    · have h1 : β' id = β id := h1
      show ∃ g c, β' id = _ ∧ _
      rw [h1]
      exact h2
    · obtain ⟨g, c, hb, hv⟩ := h2
      rcases h1 with ⟨a1, _⟩ | ⟨a, _⟩
      · exact ⟨g, c, by rw [a1]; exact hb, hv⟩
      · rw [a] at hb; cases hb
    · obtain ⟨g, c, hb, hv⟩ := h2
      obtain ⟨_, _, a | ⟨a, _⟩⟩ := h1
      · exact ⟨g, c, by rw [a]; exact hb, hv⟩
      · rw [a] at hb; cases hb
  | rptr r xs i off =>
    obtain ⟨h0, b, o, hv, hrow⟩ := hr
    exact ⟨h0, b, o, hv, hrow.mono h.stays2 h.stays⟩
  | eptr id i off =>
    refine ⟨Nat.lt_of_lt_of_le hr.1 h.len, ?_⟩
    have h1 := h.obj id hr.1
    have h2 := hr.2
    revert h1 h2
    generalize hget hp id = o0
    generalize hget hp' id = o1
    intro h1 h2
    cases o0 <;> cases o1 <;> try exact h1.elim
    all_goals try exact trivial
    · obtain ⟨_, b1, rfl, l1⟩ := h1
      obtain ⟨h3, g, c, hb, hv⟩ := h2
      exact ⟨by rw [l1]; exact h3, g, c, by rw [b1]; exact hb, hv⟩
    · obtain ⟨_, rfl, _, _, b1, l1⟩ := h1
      obtain ⟨h3, g, c, hb, hv⟩ := h2
      exact ⟨by rw [l1]; exact h3, g, c, by rw [b1]; exact hb, hv⟩
  | clo f r x =>
    obtain ⟨b, o, hv, hrow⟩ := hr
    exact ⟨b, o, hv, hrow.mono h.stays2 h.stays⟩
  | any => exact trivial
  | bs r xs => exact bsRep.mono h.stays2 h.stays hr
  | er t c => exact hr
  | qb p q => exact hr
theorem repL.imp {α β : Type} {R R' : α → β → Prop} (h : ∀ a b, R a b → R' a b) : ∀ (l : List α) (m : List β), repL R l m → repL R' l m
  | [], [], _ => trivial
  | _ :: l, _ :: m, hr => ⟨h _ _ hr.1, repL.imp h l m hr.2⟩
  | [], _ :: _, hr => hr.elim
  | _ :: _, [], hr => hr.elim
theorem repL.len {α β : Type} {R : α → β → Prop} : ∀ (l : List α) (m : List β), repL R l m → l.length = m.length
  | [], [], _ => rfl
  | _ :: l, _ :: m, hr => by simp [repL.len l m hr.2]
  | [], _ :: _, hr => hr.elim
  | _ :: _, [], hr => hr.elim
theorem repL.get {α β : Type} {R : α → β → Prop} : ∀ (l : List α) (m : List β), repL R l m → ∀ (j : Nat) (a : α), l[j]? = some a → ∃ b : β, m[j]? = some b ∧ R a b
  | [], [], _, j, a, h => by simp at h
  | x :: l, y :: m, hr, 0, a, h => ⟨y, rfl, by simp at h; subst h; exact hr.1⟩
  | x :: l, y :: m, hr, j + 1, a, h => by
    simp at h ⊢
    exact repL.get l m hr.2 j a h
  | [], _ :: _, hr, _, _, _ => hr.elim
  | _ :: _, [], hr, _, _, _ => hr.elim
theorem repL.drop {α β : Type} {R : α → β → Prop} : ∀ (n : Nat) (l : List α) (m : List β), repL R l m → repL R (l.drop n) (m.drop n)
  | 0, _, _, h => h
  | n + 1, [], [], _ => trivial
  | n + 1, _ :: l, _ :: m, h => repL.drop n l m h.2
  | _ + 1, [], _ :: _, hr => hr.elim
  | _ + 1, _ :: _, [], hr => hr.elim
theorem repL.take {α β : Type} {R : α → β → Prop} : ∀ (n : Nat) (l : List α) (m : List β), repL R l m → repL R (l.take n) (m.take n)
  | 0, _, _, _ => trivial
  | n + 1, [], [], _ => trivial
  | n + 1, _ :: l, _ :: m, h => ⟨h.1, repL.take n l m h.2⟩
  | _ + 1, [], _ :: _, hr => hr.elim
  | _ + 1, _ :: _, [], hr => hr.elim
theorem repL.append {α β : Type} {R : α → β → Prop} : ∀ (l : List α) (m : List β) (l' : List α) (m' : List β), repL R l m → repL R l' m' → repL R (l ++ l') (m ++ m')
  | [], [], _, _, _, h' => h'
  | _ :: l, _ :: m, l', m', h, h' => ⟨h.1, repL.append l m l' m' h.2 h'⟩
  | [], _ :: _, _, _, hr, _ => hr.elim
  | _ :: _, [], _, _, hr, _ => hr.elim
theorem EvoS.cvs {s : Prop} {w : World} {β : Bs} {hp : List Obj} {w' : World} {β' : Bs} {hp' : List Obj} (h : EvoS s w β hp w' β' hp') {x : List CV} {v : List Value} (hr : repL (CV.rep w β hp) x v) : repL (CV.rep w' β' hp') x v := repL.imp (fun _ _ => h.cv) _ _ hr
theorem EvoS.sv {s : Prop} {w : World} {β : Bs} {hp : List Obj} {w' : World} {β' : Bs} {hp' : List Obj} (h : EvoS s w β hp w' β' hp') {x : SV} {v : Value} (hr : x.rep w β hp v) : x.rep w' β' hp' v := by
  cases x with
  | c x => exact h.cv hr
  | agg cs =>
    obtain ⟨l, hv, hl⟩ := hr
    exact ⟨l, hv, h.cvs hl⟩
theorem EvoS.av {s : Prop} {w : World} {β : Bs} {hp : List Obj} {w' : World} {β' : Bs} {hp' : List Obj} (h : EvoS s w β hp w' β' hp') {x : AV} {v : Value} (hr : x.rep w β hp v) : x.rep w' β' hp' v := by
  cases x with
  | s x => exact h.sv hr
  | tup xs =>
    obtain ⟨l, hv, hl⟩ := hr
    exact ⟨l, hv, repL.imp (fun _ _ => h.sv) _ _ hl⟩

/-! ### From shapes to cells -/
theorem Ty.cv_rep {w : World} {β : Bs} {hp : List Obj} : (t : Ty) → (x : t.den) → (v : Value) → t.rep w (imm w β hp) x v → (t.cv x).rep w β hp v
  | .int _, _, _, h => by unfold Ty.rep at h; subst h; exact ⟨rfl, rfl⟩
  | .bool, _, _, h => by unfold Ty.rep at h; subst h; exact ⟨rfl, rfl⟩
  | .str, _, _, h => by unfold Ty.rep at h; subst h; exact ⟨rfl, rfl⟩
  | .sl _ _, _, _, h => Ty.rep_sl.1 h
theorem Row.cvs_rep {w : World} {β : Bs} {hp : List Obj} : (r : Row) → (x : r.den) → (l : List Value) → r.rep w (imm w β hp) x l → repL (CV.rep w β hp) (r.cvs x) l
  | .one t, x, l, h => by
    unfold Row.rep at h
    obtain ⟨v, rfl, hv⟩ := h
    exact ⟨t.cv_rep _ _ hv, trivial⟩
  | .cons t r, x, l, h => by
    unfold Row.rep at h
    obtain ⟨v, m, rfl, hv, hm⟩ := h
    exact ⟨t.cv_rep _ _ hv, r.cvs_rep _ _ hm⟩
theorem castRow_spec : ∀ {r' r : Row} {xs : List r'.den} {ys : List r.den}, castRow r' r xs = some ys → ∃ h : r' = r, h ▸ xs = ys := by
  intro r' r xs ys h
  unfold castRow at h
  split at h
  all_goals first
    | (split at h
       · rename_i hc
         first
           | (subst hc; injection h with h; subst h; exact ⟨rfl, rfl⟩)
           | (obtain ⟨rfl, rfl⟩ := hc; injection h with h; subst h; exact ⟨rfl, rfl⟩)
           | (obtain ⟨rfl, rfl, rfl, rfl⟩ := hc; injection h with h; subst h; exact ⟨rfl, rfl⟩)
           | (obtain ⟨rfl, rfl, rfl, rfl, rfl⟩ := hc; injection h with h; subst h; exact ⟨rfl, rfl⟩)
           | (obtain ⟨rfl, rfl, rfl, rfl, rfl, rfl⟩ := hc; injection h with h; subst h; exact ⟨rfl, rfl⟩)
       · cases h)
    | (injection h with h; subst h; exact ⟨rfl, rfl⟩)
    | cases h
theorem Ty.ofCv_rep {w : World} {β : Bs} {hp : List Obj} : (t : Ty) → (y : CV) → (x : t.den) → (v : Value) → t.ofCv y = some x → y.rep w β hp v → t.rep w (imm w β hp) x v := by
  intro t y x v h hr
  unfold Ty.ofCv at h
  split at h
  · split at h
    · rename_i hk
      subst hk
      injection h with h
      subst h
      unfold Ty.rep
      exact hr.1
    · cases h
  · injection h with h
    subst h
    unfold Ty.rep
    exact hr.1
  · injection h with h
    subst h
    unfold Ty.rep
    exact hr.1
  · split at h
    · obtain ⟨rfl, rfl⟩ := castRow_spec h
      exact Ty.rep_sl.2 hr
    · cases h
  · injection h with h
    subst h
    refine Ty.rep_sl.2 ⟨none, 0, ?_, Nat.le_refl _, .inl rfl⟩
    exact hr.1
  · cases h
theorem Row.ofCvs_rep {w : World} {β : Bs} {hp : List Obj} : (r : Row) → (l : List CV) → (x : r.den) → (m : List Value) → r.ofCvs l = some x → repL (CV.rep w β hp) l m → r.rep w (imm w β hp) x m
  | .one t, l, x, m, h, hr => by
    unfold Row.ofCvs at h
    match l, m, h, hr with
    | [y], [v], h, hr => 
      unfold Row.rep
      exact ⟨v, rfl, t.ofCv_rep _ _ _ h hr.1⟩
    | [], _, h, _ => cases h
    | _ :: _ :: _, _, h, _ => cases h
  | .cons t r, l, x, m, h, hr => by
    match l, m, h, hr with
    | y :: l, v :: m, h, hr =>
      unfold Row.ofCvs at h
      split at h
      · rename_i a b ha hb
        injection h with h
        subst h
        unfold Row.rep
        exact ⟨v, m, rfl, t.ofCv_rep _ _ _ ha hr.1, r.ofCvs_rep _ _ _ hb hr.2⟩
      · cases h
    | [], _, h, _ => simp [Row.ofCvs] at h
theorem Evo.refl (w : World) (β : Bs) (hp : List Obj) : Evo w β hp w β hp := EvoS.refl w β hp
end Go.AX
