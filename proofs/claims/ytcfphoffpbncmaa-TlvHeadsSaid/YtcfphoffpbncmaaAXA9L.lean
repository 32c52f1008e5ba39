/- The abstract executor, part 9b: which blocks a tree's objects take with them; calls of functions that write to what they are handed. -/
import Derived.Test.YtcfphoffpbncmaaAXA9
set_option linter.unusedVariables false
set_option linter.unusedSimpArgs false
namespace Go.AX
open Go.RowKit
section
variable {P : Program} {E : Env} {w : World} {β : Bs} {st : St} {a : Act}
/-- Of each object of a tree: where its blocks stood before. -/
abbrev Lb := Nat → Option (Nat × Nat)
abbrev Lab := List Lb
def Lb.fp (L : Lb) (β : Bs) : Fp := fun j => (L j).bind fun p => β.f p.1 p.2
def Lab.bs (l : Lab) (β : Bs) : List Fp := l.map fun L => Lb.fp L β
theorem Lab.bs_append (l m : Lab) (β : Bs) : Lab.bs (l ++ m) β = Lab.bs l β ++ Lab.bs m β := by simp [Lab.bs]
def lab0 : Lb := fun _ => none
def lab1 (id : Nat) : Lb
  | 0 => some (id, 0)
  | _ => none
def labN (id n : Nat) : Lb := fun j => if j ≤ n then some (id, j) else none
def labO (id n i m : Nat) : Lb := fun j => if j = i + 1 then some (m, 0) else if j ≤ n then some (id, j) else none
theorem lab0_fp : Lb.fp lab0 β = fp1 none := by
  funext j
  cases j <;> rfl
theorem lab1_fp (id : Nat) : Lb.fp (lab1 id) β = fp1 (β id) := by
  funext j
  cases j <;> rfl
/-- An object that lives, and is there. -/
structure LZ (hp : List Obj) (id : Nat) : Prop where
  l : live hp id
  z : ∀ e cs, hget hp id ≠ .zbox e cs
theorem lz_row {hp : List Obj} {id : Nat} {e : TypeId} {r : Row} {xs : List r.den} (h : hget hp id = .row e r xs) : LZ hp id := ⟨live_row h, fun e cs h' => by rw [h] at h'; cases h'⟩
theorem lz_box {hp : List Obj} {id : Nat} {e : TypeId} {cs : List CV} (h : hget hp id = .box e cs) : LZ hp id := ⟨live_box h, fun e cs h' => by rw [h] at h'; cases h'⟩
theorem lz_nest {hp : List Obj} {id : Nat} {e : TypeId} {pk : Option IntKind} {eb : TypeId} {r : Row} {xs : List (Int × List r.den)} {ov : Option (Nat × CV)} (h : hget hp id = .nest e pk eb r xs ov) : ∀ e cs, hget hp id ≠ .zbox e cs := fun e cs h' => by rw [h] at h'; cases h'
structure CovR (hp : List Obj) (used used' : List Nat) (labs : Lab) (f : List Nat) : Prop where
  mem : ∀ L, L ∈ labs → ∀ j id jj, L j = some (id, jj) → id ∈ used' ∧ id ∉ used ∧ fp hp id jj
  memf : ∀ id, id ∈ f → id ∈ used' ∧ id ∉ used ∧ live hp id
  sub : ∀ id, id ∈ used → id ∈ used'
  inj : ∀ (i i' : Nat) (L L' : Lb) (j j' : Nat) (p : Nat × Nat), labs[i]? = some L → labs[i']? = some L' → L j = some p → L' j' = some p → i = i' ∧ j = j'
  sep : ∀ L, L ∈ labs → ∀ j id jj, L j = some (id, jj) → id ∉ f
  nz : ∀ id, id ∈ used' → id ∈ used ∨ ∀ e cs, hget hp id ≠ .zbox e cs
theorem CovR.refl (hp : List Obj) (used : List Nat) : CovR hp used used [] [] := ⟨fun L h => by simp at h, fun id h => by simp at h, fun _ h => h, fun i i' L L' j j' p h => by simp at h, fun L h => by simp at h, fun _ h => .inl h⟩
theorem CovR.one {hp : List Obj} {used used' : List Nat} {L : Lb} (hm : ∀ j id jj, L j = some (id, jj) → id ∈ used' ∧ id ∉ used ∧ fp hp id jj) (hs : ∀ id, id ∈ used → id ∈ used') (hi : ∀ j j' p, L j = some p → L j' = some p → j = j') (hz : ∀ id, id ∈ used' → id ∈ used ∨ ∀ e cs, hget hp id ≠ .zbox e cs) : CovR hp used used' [L] [] :=
  ⟨fun L' h => by rw [List.mem_singleton.1 h]; exact hm, fun id h => by simp at h, hs, fun i i' M M' j j' p h h' e e' => by
    cases i <;> cases i' <;> simp at h h'
    subst h h'
    exact ⟨rfl, hi j j' p e e'⟩, fun _ _ _ _ _ _ => by simp, hz⟩
theorem CovR.nil (hp : List Obj) (used : List Nat) : CovR hp used used [lab0] [] := CovR.one (fun j id jj h => by cases h) (fun _ h => h) (fun j j' p h => by cases h) (fun _ h => .inl h)
theorem CovR.own {hp : List Obj} {used : List Nat} {id : Nat} (h : id ∉ used) (hl : LZ hp id) : CovR hp used (id :: used) [lab1 id] [] :=
  CovR.one (fun j k jj e => by
    cases j with
    | zero => injection e with e; injection e with e1 e2; subst e1 e2; exact ⟨by simp, h, live_fp hl.l⟩
    | succ j => cases e) (fun _ h => by simp [h]) (fun j j' p e e' => by
    cases j with
    | zero => cases j' with
      | zero => rfl
      | succ j => cases e'
    | succ j => cases e) (fun k hk => by
    rcases List.mem_cons.1 hk with rfl | hk
    · exact .inr hl.z
    · exact .inl hk)
theorem CovR.fro {hp : List Obj} {used : List Nat} {id : Nat} (h : id ∉ used) (hl : LZ hp id) : CovR hp used (id :: used) [] [id] :=
  ⟨fun L h => by simp at h, fun j hj => by simp at hj; subst hj; exact ⟨by simp, h, hl.l⟩, fun _ h => by simp [h], fun i i' L L' j j' p h => by simp at h, fun L h => by simp at h, fun k hk => by
    rcases List.mem_cons.1 hk with rfl | hk
    · exact .inr hl.z
    · exact .inl hk⟩
theorem CovR.comp {hp : List Obj} {u0 u1 u2 : List Nat} {l1 l2 : Lab} {f1 f2 : List Nat} (h : CovR hp u0 u1 l1 f1) (k : CovR hp u1 u2 l2 f2) : CovR hp u0 u2 (l1 ++ l2) (f1 ++ f2) where
  mem := fun L hL j id jj e => by
    rcases List.mem_append.1 hL with hL | hL
    · have := h.mem L hL j id jj e
      exact ⟨k.sub _ this.1, this.2⟩
    · have := k.mem L hL j id jj e
      exact ⟨this.1, fun hu => this.2.1 (h.sub _ hu), this.2.2⟩
  memf := fun id hi => by
    rcases List.mem_append.1 hi with hi | hi
    · have := h.memf id hi
      exact ⟨k.sub _ this.1, this.2⟩
    · have := k.memf id hi
      exact ⟨this.1, fun hu => this.2.1 (h.sub _ hu), this.2.2⟩
  sub := fun id hm => k.sub _ (h.sub _ hm)
  inj := fun i i' L L' j j' p hi hj e e' => by
    rw [List.getElem?_append] at hi hj
    split at hi <;> split at hj
    · exact h.inj i i' L L' j j' p hi hj e e'
    · exact absurd (h.mem L (List.mem_of_getElem? hi) j p.1 p.2 e).1 (k.mem L' (List.mem_of_getElem? hj) j' p.1 p.2 e').2.1
    · exact absurd (h.mem L' (List.mem_of_getElem? hj) j' p.1 p.2 e').1 (k.mem L (List.mem_of_getElem? hi) j p.1 p.2 e).2.1
    · have := k.inj _ _ L L' j j' p hi hj e e'
      exact ⟨by omega, this.2⟩
  sep := fun L hL j id jj e hf => by
    rcases List.mem_append.1 hL with a | a <;> rcases List.mem_append.1 hf with b | b
    · exact h.sep L a j id jj e b
    · exact (k.memf id b).2.1 (h.mem L a j id jj e).1
    · exact (k.mem L a j id jj e).2.1 (h.memf id b).1
    · exact k.sep L a j id jj e b
  nz := fun id hi => (k.nz id hi).elim (h.nz id) .inr
/-- What may be read if the blocks of f may. -/
def OkFor (w : World) (β : Bs) (hp : List Obj) (f : List Nat) (A : Acc) : Prop := AStays w w (accOf w β hp) A ∧ ∀ id, id ∈ f → ∀ g c, β id = some (g, c) → A.ok g ∧ A.bo g
theorem OkFor.left {f1 f2 : List Nat} {hp : List Obj} {A : Acc} (h : OkFor w β hp (f1 ++ f2) A) : OkFor w β hp f1 A := ⟨h.1, fun id hm => h.2 id (by simp [hm])⟩
theorem OkFor.right {f1 f2 : List Nat} {hp : List Obj} {A : Acc} (h : OkFor w β hp (f1 ++ f2) A) : OkFor w β hp f2 A := ⟨h.1, fun id hm => h.2 id (by simp [hm])⟩
/-- The blocks that stay to be written to; all else that was told may be read. -/
def okOf (w : World) (β : Bs) (os : List Fp) : Acc := ⟨fun b => b < w.heap.size ∧ ¬ β.out b ∧ ¬ InOs os b, fun b => b < w.heap.size ∧ ¬ InOs os b⟩
theorem Lab.mem_bs {labs : Lab} {β : Bs} {g : Nat} (h : InOs (Lab.bs labs β) g) : ∃ L, L ∈ labs ∧ ∃ j id jj c, L j = some (id, jj) ∧ β.f id jj = some (g, c) := by
  obtain ⟨F, hF, j, c, he⟩ := h
  simp only [Lab.bs, List.mem_map] at hF
  obtain ⟨L, hL, rfl⟩ := hF
  unfold Lb.fp at he
  cases hq : L j with
  | none => rw [hq] at he; cases he
  | some p => rw [hq] at he; exact ⟨L, hL, j, p.1, p.2, c, hq, he⟩
theorem CovR.mut {hp : List Obj} {used used' : List Nat} {labs : Lab} {f : List Nat} (h : CovR hp used used' labs f) {g : Nat} (hi : InOs (Lab.bs labs β) g) : ∃ id jj c, id ∈ used' ∧ id ∉ used ∧ fp hp id jj ∧ β.f id jj = some (g, c) := by
  obtain ⟨L, hL, j, id, jj, c, e, hb⟩ := Lab.mem_bs hi
  obtain ⟨a1, a2, a3⟩ := h.mem L hL j id jj e
  exact ⟨id, jj, c, a1, a2, a3, hb⟩
theorem CovR.apart {hp : List Obj} (hH : HRep w β hp) {used used' : List Nat} {labs : Lab} {f : List Nat} (h : CovR hp used used' labs f) : Apart (Lab.bs labs β) := by
  intro i i' F F' j j' g c c' hi hi' e e'
  simp only [Lab.bs, List.getElem?_map, Option.map_eq_some_iff] at hi hi'
  obtain ⟨L, hL, rfl⟩ := hi
  obtain ⟨L', hL', rfl⟩ := hi'
  unfold Lb.fp at e e'
  cases hq : L j with
  | none => rw [hq] at e; cases e
  | some p =>
    cases hq' : L' j' with
    | none => rw [hq'] at e'; cases e'
    | some p' =>
      rw [hq] at e
      rw [hq'] at e'
      have h1 := (h.mem L (List.mem_of_getElem? hL) j p.1 p.2 hq).2.2
      have h2 := (h.mem L' (List.mem_of_getElem? hL') j' p'.1 p'.2 hq').2.2
      obtain ⟨x1, x2⟩ := hH.diss p.1 p'.1 p.2 p'.2 g c c' h1 h2 e e'
      have hpp : p' = p := by
        obtain ⟨p1, p2⟩ := p
        obtain ⟨q1, q2⟩ := p'
        dsimp only at x1 x2
        rw [x1, x2]
      subst hpp
      exact h.inj i i' L L' j j' _ hL hL' hq hq'
theorem CovR.okFor {hp : List Obj} (hH : HRep w β hp) {used used' : List Nat} {labs : Lab} {f : List Nat} (h : CovR hp used used' labs f) :
    OkFor w β hp f (okOf w β (Lab.bs labs β)) ∧ Apart (Lab.bs labs β) := by
  have hno : ∀ b, nomut w β hp b → ¬ InOs (Lab.bs labs β) b := fun b hb hi => by
    obtain ⟨id, jj, c, _, _, a3, a4⟩ := h.mut hi
    exact hb.2 ⟨id, jj, c, a3, a4⟩
  refine ⟨⟨⟨Stays.sub fun b hb => ⟨hb.1, hb.2.2, hno b (imm_nomut hb)⟩, Stays.sub fun b hb => ⟨hb.1, hno b hb⟩⟩, fun id hid g c hb => ?_⟩, h.apart hH⟩
  have hl := (h.memf id hid).2.2
  have hni : ¬ InOs (Lab.bs labs β) g := fun hi => by
    obtain ⟨L, hL, j, id', jj, c', e, hb'⟩ := Lab.mem_bs hi
    obtain ⟨a1, a2, a3⟩ := h.mem L hL j id' jj e
    have := (hH.diss id' id jj 0 g c' c a3 (live_fp hl) hb' hb).1
    subst this
    exact h.sep L hL j _ jj e hid
  exact ⟨⟨hH.lt hl hb, hH.no _ _ _ hl hb, hni⟩, hH.lt hl hb, hni⟩
/-! ### Trees of what is handed over -/
theorem nest_con {hp : List Obj} (hH : HRep w β hp) {id : Nat} {u : Value} (hr : (CV.own id).rep w β hp u) {e : TypeId} {pk : Option IntKind} {eb : TypeId} {r : Row} {xs : List (Int × List r.den)} (hg : hget hp id = .nest e pk eb r xs none) {A : Acc} (hst : AStays w w (accOf w β hp) A) :
    T0.con w A (.nest e pk eb r xs) u [Lb.fp (labN id xs.length) β] := by
  have hu := hr.2
  rw [hg] at hu
  have hu : u = ownVal (β.f id 0) xs.length := hu
  have hO := hH.obj id hr.1
  unfold ObjRep at hO
  rw [hg] at hO
  have hF : ∀ j, j ≤ xs.length → Lb.fp (labN id xs.length) β j = β.f id j := fun j hj => by
    unfold Lb.fp labN
    rw [if_pos hj]
    rfl
  refine ⟨_, rfl, fun j hj => ?_, by rw [hF 0 (by omega)]; exact hu, ?_⟩
  · unfold Lb.fp labN
    rw [if_neg (by omega)]
    rfl
  · exact nestO.mono hst.1 (fun j hj _ => hF j hj) (fun _ _ _ _ _ _ => rfl) (ov := none) (ov' := none) (fun q hq => by cases hq) (fun q hq => by cases hq) hO
theorem nestO_con {hp : List Obj} (hH : HRep w β hp) {id : Nat} {u : Value} (hr : (CV.own id).rep w β hp u) {e : TypeId} {pk : Option IntKind} {eb : TypeId} {r : Row} {xs : List (Int × List r.den)} {i m : Nat} (hg : hget hp id = .nest e pk eb r xs (some (i, .own m))) {ys : List r.den} (hm : hget hp m = .row eb r ys) (hi : i < xs.length) {A : Acc} (hst : AStays w w (accOf w β hp) A) :
    T0.con w A (.nest e pk eb r (lset xs i ((xs.getD i (0, [])).1, ys))) u [Lb.fp (labO id xs.length i m) β] := by
  have hu := hr.2
  rw [hg] at hu
  have hu : u = ownVal (β.f id 0) xs.length := hu
  have hO := hH.obj id hr.1
  unfold ObjRep at hO
  rw [hg] at hO
  have hM := hH.obj m (hget_lt hm (by simp))
  unfold ObjRep at hM
  rw [hm] at hM
  have hM : rowObj w (imm w β hp) (β.f m 0) eb r ys := hM
  have hFm : Lb.fp (labO id xs.length i m) β (i + 1) = β.f m 0 := by
    unfold Lb.fp labO
    rw [if_pos rfl]
    rfl
  have hF : ∀ j, j ≤ xs.length → j ≠ i + 1 → Lb.fp (labO id xs.length i m) β j = β.f id j := fun j hj hne => by
    unfold Lb.fp labO
    rw [if_neg hne, if_pos hj]
    rfl
  refine ⟨_, rfl, fun j hj => ?_, by rw [hF 0 (by omega) (by omega), lset_len]; exact hu, ?_⟩
  · rw [lset_len] at hj
    unfold Lb.fp labO
    rw [if_neg (by omega), if_neg (by omega)]
    rfl
  · obtain ⟨g, cap, cells, c0, c1, c2, c3, c4, _, hall⟩ := hO
    refine ⟨g, cap, cells, by rw [hF 0 (by omega) (by omega)]; exact c0, c1, c2, by rw [lset_len]; exact c3, c4, (fun q hq => nomatch hq), fun j x hx => ?_⟩
    rcases lset_get hx with ⟨rfl, rfl, hjl⟩ | ⟨hne, hx⟩
    · obtain ⟨k1, v, k2, k3, k4⟩ := hall j _ (List.getElem?_eq_getElem hjl)
      refine ⟨fun k hk => ?_, v, k2, (fun q hq => nomatch hq), fun _ => ?_⟩
      · have := k1 k hk
        rw [List.getD_eq_getElem?_getD, List.getElem?_eq_getElem hjl]
        exact this
      · have hv : (CV.own m).rep w β hp v := k3 _ rfl rfl
        have hv2 := hv.2
        rw [hm] at hv2
        have hv2 : v = ownVal (β.f m 0) ys.length := hv2
        rw [hFm]
        exact ⟨hv2, hM.mono hst.1 (fun _ _ _ => rfl)⟩
    · have hj := (List.getElem?_eq_some_iff.1 hx).1
      obtain ⟨k1, v, k2, k3, k4⟩ := hall j _ hx
      refine ⟨k1, v, k2, (fun q hq => nomatch hq), fun _ => ?_⟩
      obtain ⟨a1, a2⟩ := k4 (fun q hq e1 => by
        injection hq with hq
        subst hq
        exact hne e1.symm)
      rw [hF (j + 1) (by omega) (by omega)]
      exact ⟨a1, a2.mono hst.1 (fun _ _ _ => rfl)⟩
theorem CovR.nest {hp : List Obj} {used : List Nat} {id n : Nat} (h : id ∉ used) (hz : ∀ e cs, hget hp id ≠ .zbox e cs) (hf : ∀ j, j ≤ n → fp hp id j) : CovR hp used (id :: used) [labN id n] [] := by
  refine CovR.one (fun j k jj e => ?_) (fun _ h => by simp [h]) (fun j j' p e e' => ?_) (fun k hk => (List.mem_cons.1 hk).elim (fun e => .inr (by rw [e]; exact hz)) .inl)
  · unfold labN at e
    split at e
    · rename_i hj
      injection e with e
      injection e with e1 e2
      subst e1 e2
      exact ⟨by simp, h, hf j hj⟩
    · cases e
  · unfold labN at e e'
    split at e <;> split at e'
    · injection e with e
      subst e
      injection e' with e'
      injection e' with _ e'
      exact e'.symm
    · cases e'
    · cases e
    · cases e
theorem CovR.nestO {hp : List Obj} {used : List Nat} {id n i m : Nat} (h : id ∉ used) (hm : m ∉ used) (hne : m ≠ id) (hz : ∀ e cs, hget hp id ≠ .zbox e cs) (hf : ∀ j, j ≤ n → j ≠ i + 1 → fp hp id j) (hl : LZ hp m) : CovR hp used (m :: id :: used) [labO id n i m] [] := by
  refine CovR.one (fun j k jj e => ?_) (fun _ h => by simp [h]) (fun j j' p e e' => ?_) (fun k hk => by
    rcases List.mem_cons.1 hk with rfl | hk
    · exact .inr hl.z
    · exact (List.mem_cons.1 hk).elim (fun e => .inr (by rw [e]; exact hz)) .inl)
  · unfold labO at e
    split at e
    · injection e with e
      injection e with e1 e2
      subst e1 e2
      exact ⟨by simp, hm, live_fp hl.l⟩
    · rename_i hj
      split at e
      · rename_i hjn
        injection e with e
        injection e with e1 e2
        subst e1 e2
        exact ⟨by simp, h, hf j hjn hj⟩
      · cases e
  · unfold labO at e e'
    split at e
    · rename_i hj
      injection e with e
      subst e
      split at e'
      · rename_i hj'
        omega
      · split at e'
        · injection e' with e'
          injection e' with e1 e2
          exact absurd e1.symm hne
        · cases e'
    · split at e
      · injection e with e
        subst e
        split at e'
        · injection e' with e'
          injection e' with e1 e2
          exact absurd e1 hne
        · split at e'
          · injection e' with e'
            injection e' with e1 e2
            exact e2.symm
          · cases e'
      · cases e
theorem nest_fp {hp : List Obj} {id : Nat} {e : TypeId} {pk : Option IntKind} {eb : TypeId} {r : Row} {xs : List (Int × List r.den)} {ov : Option (Nat × CV)} (hg : hget hp id = .nest e pk eb r xs ov) {j : Nat} (hj : j ≤ xs.length) (ho : ∀ p, ov = some p → j ≠ p.1 + 1) : fp hp id j := by
  unfold fp fpO
  rw [hg]
  exact ⟨hj, ho⟩
theorem own_con {hp : List Obj} (hH : HRep w β hp) {id : Nat} {u : Value} (hr : (CV.own id).rep w β hp u) {e : TypeId} {r : Row} {xs : List r.den} (hg : hget hp id = .row e r xs) {A : Acc} (hst : AStays w w (accOf w β hp) A) : T0.con w A (.own e r xs) u [Lb.fp (lab1 id) β] := by
  obtain ⟨o1, o2⟩ := own_row hH hr hg
  rw [lab1_fp]
  exact ⟨β id, rfl, o1, o2.mono hst.1 (fun _ _ _ => rfl)⟩
theorem dig0_spec {hp : List Obj} (hH : HRep w β hp) {used used' : List Nat} {t : T0} {y : CV} {u : Value} (h : dig0 hp used y = some (t, used')) (hr : y.rep w β hp u) :
    ∃ labs, CovR hp used used' labs [] ∧ ∀ A, AStays w w (accOf w β hp) A → t.con w A u (Lab.bs labs β) := by
  unfold dig0 at h
  split at h
  · split at h
    · injection h with h
      injection h with h1 h2
      subst h1 h2
      exact ⟨[], .refl _ _, fun A _ => ⟨hr, rfl⟩⟩
    · cases h
  · injection h with h
    injection h with h1 h2
    subst h1 h2
    exact ⟨[], .refl _ _, fun A _ => ⟨hr, rfl⟩⟩
  · injection h with h
    injection h with h1 h2
    subst h1 h2
    exact ⟨[], .refl _ _, fun A hA => ⟨slRep.mono hA.1 hr, rfl⟩⟩
  · rename_i id
    split at h
    · rename_i e r xs hg
      split at h
      · cases h
      · rename_i hu
        injection h with h
        injection h with h1 h2
        subst h1 h2
        exact ⟨[lab1 id], .own (by simpa using hu) (lz_row hg), fun A hA => own_con hH hr hg hA⟩
    · rename_i e r xs hg
      injection h with h
      injection h with h1 h2
      subst h1 h2
      have := hr.2
      rw [hg] at this
      exact ⟨[], .refl _ _, fun A hA => ⟨slRep.mono hA.1 this, rfl⟩⟩
    · rename_i e pk eb r xs hg
      split at h
      · cases h
      · rename_i hu
        injection h with h
        injection h with h1 h2
        subst h1 h2
        exact ⟨[labN id xs.length], .nest (by simpa using hu) (lz_nest hg) (fun j hj => nest_fp hg hj (fun p hp => by cases hp)), fun A hA => nest_con hH hr hg hA⟩
    · rename_i e pk eb r xs i m hg
      split at h
      · rename_i eb' r' ys hm
        split at h
        · rename_i hc
          obtain ⟨rfl, hu1, hu2, hne⟩ := hc
          split at h
          · rename_i ys' hcr
            obtain ⟨rfl, rfl⟩ := castRow_spec hcr
            injection h with h
            injection h with h1 h2
            subst h1 h2
            have hi : i < xs.length := by
              have hO := hH.obj id hr.1
              unfold ObjRep at hO
              rw [hg] at hO
              obtain ⟨_, _, _, _, _, _, _, _, hov, _⟩ := hO
              exact hov _ rfl
            exact ⟨[labO id xs.length i m], .nestO (by simpa using hu1) (by simpa using hu2) hne (lz_nest hg) (fun j hj hn => nest_fp hg hj (fun p hp => by injection hp with hp; subst hp; exact hn)) (lz_row hm), fun A hA => nestO_con hH hr hg hm hi hA⟩
          · cases h
        · cases h
      · cases h
    · cases h
  · cases h
end
end Go.AX
