/- The abstract executor, part 2: how a state in memory is handed on over one step: an object made, turned, let go. -/
import Derived.Test.YtcfphoffpbncmaaAXA1
set_option linter.unusedVariables false
namespace Go.AX

theorem hget_ge : ∀ (hp : List Obj) (id : Nat), hp.length ≤ id → hget hp id = .gone
  | [], _, _ => rfl
  | _ :: l, 0, h => by simp at h
  | _ :: l, n + 1, h => hget_ge l n (by simpa using h)
theorem hget_append_lt : ∀ (hp l : List Obj) (id : Nat), id < hp.length → hget (hp ++ l) id = hget hp id
  | [], _, _, h => by simp at h
  | _ :: _, _, 0, _ => rfl
  | _ :: m, l, n + 1, h => hget_append_lt m l n (by simpa using h)
theorem hget_append_ge : ∀ (hp l : List Obj) (id : Nat), hget (hp ++ l) (hp.length + id) = hget l id
  | [], l, id => by simp
  | x :: m, l, id => by
    have : (x :: m).length + id = (m.length + id) + 1 := by simp; omega
    rw [this]
    exact hget_append_ge m l id
theorem hget_append_new (hp : List Obj) (o : Obj) : hget (hp ++ [o]) hp.length = o := hget_append_ge hp [o] 0
theorem hset_len : ∀ (hp : List Obj) (id : Nat) (o : Obj), (hset hp id o).length = hp.length
  | [], _, _ => rfl
  | _ :: _, 0, _ => rfl
  | _ :: m, n + 1, o => by simp [hset, hset_len m n o]
theorem hget_hset_self : ∀ (hp : List Obj) (id : Nat) (o : Obj), id < hp.length → hget (hset hp id o) id = o
  | [], _, _, h => by simp at h
  | _ :: _, 0, _, _ => rfl
  | _ :: m, n + 1, o, h => hget_hset_self m n o (by simpa using h)
theorem hget_hset_ne : ∀ (hp : List Obj) (id j : Nat) (o : Obj), j ≠ id → hget (hset hp id o) j = hget hp j
  | [], _, _, _, _ => rfl
  | _ :: _, 0, 0, _, h => absurd rfl h
  | _ :: _, 0, _ + 1, _, _ => rfl
  | _ :: _, _ + 1, 0, _, _ => rfl
  | _ :: m, n + 1, j + 1, o, h => hget_hset_ne m n j o (by omega)
theorem hget_lt {hp : List Obj} {id : Nat} {o : Obj} (h : hget hp id = o) (ho : o ≠ .gone) : id < hp.length := by
  rcases Nat.lt_or_ge id hp.length with h' | h'
  · exact h'
  · exact absurd ((hget_ge hp id h').symm.trans h).symm ho
theorem live_lt {hp : List Obj} {id : Nat} (h : live hp id) : id < hp.length := by
  rcases Nat.lt_or_ge id hp.length with h' | h'
  · exact h'
  · unfold live at h
    rw [hget_ge hp id h'] at h
    exact h.elim
theorem live_row {hp : List Obj} {id : Nat} {e : TypeId} {r : Row} {xs : List r.den} (h : hget hp id = .row e r xs) : live hp id := by unfold live; rw [h]; trivial
theorem live_box {hp : List Obj} {id : Nat} {e : TypeId} {cs : List CV} (h : hget hp id = .box e cs) : live hp id := by unfold live; rw [h]; trivial
/-- The block of an object that lives is there. -/
theorem HRep.lt {w : World} {β : Bs} {hp : List Obj} (h : HRep w β hp) {id g c : Nat} (hl : live hp id) (hb : β id = some (g, c)) : g < w.heap.size := by
  have ho := h.obj id (live_lt hl)
  unfold ObjRep at ho
  unfold live at hl
  split at ho
  · rcases ho with ⟨h0, _⟩ | ⟨g', cap, cells, h0, hg, _⟩
    · rw [hb] at h0
      cases h0
    · rw [hb] at h0
      injection h0 with h0
      injection h0 with h0 h1
      subst h0
      exact (Array.getElem?_eq_some_iff.1 hg).1
  · obtain ⟨g', c', cells, h0, hg, _⟩ := ho
    rw [hb] at h0
    injection h0 with h0
    injection h0 with h0 h1
    subst h0
    exact (Array.getElem?_eq_some_iff.1 hg).1
  · rename_i h1 h2
    revert hl
    split
    · rename_i e1
      exact fun _ => absurd e1 (h1 _ _ _)
    · rename_i e1
      exact fun _ => absurd e1 (h2 _ _)
    · exact fun h => h.elim
theorem rowObj.mono {w w' : World} {ok ok' : Nat → Prop} (h : Stays w w' ok ok') {o : Option (Nat × Nat)} {e : TypeId} {r : Row} {xs : List r.den}
    (hb : ∀ g c, o = some (g, c) → w'.heap[g]? = w.heap[g]?) (hr : rowObj w ok o e r xs) : rowObj w' ok' o e r xs := by
  rcases hr with hr | ⟨g, cap, cells, ho, hg, hs, hl, hm, hall⟩
  · exact .inl hr
  · exact .inr ⟨g, cap, cells, ho, by rw [hb g cap ho]; exact hg, hs, hl, hm, fun i x hi => Row.rep_mono h r x _ (hall i x hi)⟩
/-- One step. N: the objects that are made or turned. -/
theorem HRep.step {w : World} {β : Bs} {hp : List Obj} {w' : World} {β' : Bs} {hp' : List Obj} (h : HRep w β hp) (N : Nat → Prop)
    (hos : w'.os = w.os) (htape : w'.tape = w.tape) (hout : w'.output = w.output) (hsize : w.heap.size ≤ w'.heap.size) (hlen : hp.length ≤ hp'.length) (hbo : β'.out = β.out)
    (ext : ∀ b, b < w.heap.size → ¬ mutb β hp b → w'.heap[b]? = w.heap[b]?)
    (keep : ∀ id, ¬ N id → live hp' id → hget hp' id = hget hp id ∧ β' id = β id ∧ ∀ g c, β id = some (g, c) → w'.heap[g]? = w.heap[g]?)
    (own : ∀ id g c, N id → live hp' id → β' id = some (g, c) → w.heap.size ≤ g ∨ ∃ id0 c0, live hp id0 ∧ β id0 = some (g, c0) ∧ (¬ N id0 → ¬ live hp' id0))
    (dis : ∀ id id' g c c', N id → N id' → live hp' id → live hp' id' → β' id = some (g, c) → β' id' = some (g, c') → id = id')
    (oevo : ∀ id, id < hp.length → hget hp' id = hget hp id ∧ β' id = β id ∨ (Stays w w' (imm w β hp) (imm w' β' hp') → ObjEvo w' (imm w' β' hp') (β id) (β' id) (hget hp id) (hget hp' id))) :
    Evo w β hp w' β' hp' ∧ ((∀ id, N id → id < hp'.length → ObjRep w' β' hp' id) → HRep w' β' hp') := by
  have keepLive : ∀ id, ¬ N id → live hp' id → live hp id := fun id hn hl => by
    unfold live
    rw [← (keep id hn hl).1]
    exact hl
  have fresh : ∀ b, mutb β' hp' b → mutb β hp b ∨ w.heap.size ≤ b := by
    rintro b ⟨id, c, hl, hb⟩
    by_cases hn : N id
    · rcases own id b c hn hl hb with h1 | ⟨id0, c0, h1, h2, _⟩
      · exact .inr h1
      · exact .inl ⟨id0, c0, h1, h2⟩
    · exact .inl ⟨id, c, keepLive id hn hl, by rw [← (keep id hn hl).2.1]; exact hb⟩
  have stays : Stays w w' (imm w β hp) (imm w' β' hp') := by
    intro b hb
    refine ⟨⟨Nat.lt_of_lt_of_le hb.1 hsize, fun hm => ?_, by rw [hbo]; exact hb.2.2⟩, fun c e fz hc => ⟨fz, by rw [ext b hb.1 hb.2.1]; exact hc⟩⟩
    rcases fresh b hm with hm | hm
    · exact hb.2.1 hm
    · exact absurd hb.1 (by omega)
  have evo : Evo w β hp w' β' hp' := ⟨hos, htape, hout, hsize, ext, fresh, hlen, hbo, fun id hid => by
    rcases oevo id hid with ⟨h1, h2⟩ | h1
    · rw [h1, h2]
      exact ObjEvo.refl _
    · exact h1 stays⟩
  refine ⟨evo, fun hN => ⟨fun id hid => ?_, fun id id' g c c' hl hl' hb hb' => ?_, fun id g c hl hb ho => ?_, fun b hb => Nat.lt_of_lt_of_le (h.old b (by rw [← hbo]; exact hb)) hsize⟩⟩
  · by_cases hn : N id
    · exact hN id hn hid
    · by_cases hl : live hp' id
      · obtain ⟨h1, h2, h3⟩ := keep id hn hl
        have ho := h.obj id (live_lt (keepLive id hn hl))
        unfold ObjRep at ho ⊢
        rw [h1, h2]
        revert ho
        split
        · exact fun ho => rowObj.mono stays h3 ho
        · rintro ⟨g, c, cells, hb, hg, hr, h1⟩
          exact ⟨g, c, cells, hb, by rw [h3 g c hb]; exact hg, evo.cvs hr, h1⟩
        · exact fun _ => trivial
      · unfold ObjRep
        unfold live at hl
        split
        · rename_i e1
          rw [e1] at hl
          exact absurd trivial hl
        · rename_i e1
          rw [e1] at hl
          exact absurd trivial hl
        · trivial
  · by_cases hn : N id
    · by_cases hn' : N id'
      · exact dis id id' g c c' hn hn' hl hl' hb hb'
      · exfalso
        obtain ⟨h1, h2, h3⟩ := keep id' hn' hl'
        rw [h2] at hb'
        rcases own id g c hn hl hb with h4 | ⟨id0, c0, h4, h5, h6⟩
        · have := h.lt (keepLive id' hn' hl') hb'
          omega
        · have := h.dis id0 id' g c0 c' h4 (keepLive id' hn' hl') h5 hb'
          subst this
          exact h6 hn' hl'
    · obtain ⟨h1, h2, h3⟩ := keep id hn hl
      rw [h2] at hb
      by_cases hn' : N id'
      · exfalso
        rcases own id' g c' hn' hl' hb' with h4 | ⟨id0, c0, h4, h5, h6⟩
        · have := h.lt (keepLive id hn hl) hb
          omega
        · have := h.dis id0 id g c0 c h4 (keepLive id hn hl) h5 hb
          subst this
          exact h6 hn hl
      · obtain ⟨h1', h2', h3'⟩ := keep id' hn' hl'
        rw [h2'] at hb'
        exact h.dis id id' g c c' (keepLive id hn hl) (keepLive id' hn' hl') hb hb'
  · rw [hbo] at ho
    by_cases hn : N id
    · rcases own id g c hn hl hb with h4 | ⟨id0, c0, h4, h5, _⟩
      · have := h.old g ho
        omega
      · exact h.no id0 g c0 h4 h5 ho
    · obtain ⟨h1, h2, h3⟩ := keep id hn hl
      rw [h2] at hb
      exact h.no id g c (keepLive id hn hl) hb ho

/-- The blocks when one more object is there. -/
def bnew (β : Bs) (n : Nat) (o : Option (Nat × Nat)) : Bs := ⟨fun id => if id = n then o else β id, β.out⟩
theorem bnew_at (β : Bs) (n : Nat) (o : Option (Nat × Nat)) : bnew β n o n = o := by simp [bnew]
theorem bnew_ne (β : Bs) {n j : Nat} (o : Option (Nat × Nat)) (h : j ≠ n) : bnew β n o j = β j := by simp [bnew, h]
/-- An object more, in blocks of its own. -/
theorem HRep.new {w : World} {β : Bs} {hp : List Obj} (h : HRep w β hp) {w' : World} (o : Obj) (og : Option (Nat × Nat))
    (hos : w'.os = w.os) (htape : w'.tape = w.tape) (hout : w'.output = w.output) (hsize : w.heap.size ≤ w'.heap.size)
    (old : ∀ b, b < w.heap.size → w'.heap[b]? = w.heap[b]?) (hog : ∀ g c, og = some (g, c) → w.heap.size ≤ g) :
    Evo w β hp w' (bnew β hp.length og) (hp ++ [o]) ∧ (ObjRep w' (bnew β hp.length og) (hp ++ [o]) hp.length → HRep w' (bnew β hp.length og) (hp ++ [o])) := by
  have hlt : ∀ id, id ≠ hp.length → live (hp ++ [o]) id → id < hp.length := fun id hn hl => by
    have := live_lt hl
    simp at this
    omega
  obtain ⟨h1, h2⟩ := h.step (w' := w') (β' := bnew β hp.length og) (hp' := hp ++ [o]) (fun id => id = hp.length) hos htape hout hsize (by simp) rfl (fun b hb _ => old b hb)
    (fun id hn hl => ⟨hget_append_lt _ _ _ (hlt id hn hl), bnew_ne _ _ hn, fun g c hb => old g (h.lt (by
      have := hget_append_lt hp [o] id (hlt id hn hl)
      unfold live at hl ⊢
      rw [← this]
      exact hl) hb)⟩)
    (fun id g c hn hl hb => .inl (hog g c (by subst hn; rwa [bnew_at] at hb)))
    (fun id id' _ _ _ hn hn' _ _ _ _ => hn.trans hn'.symm)
    (fun id hid => .inl ⟨hget_append_lt _ _ _ hid, bnew_ne _ _ (by omega)⟩)
  exact ⟨h1, fun hn => h2 fun id hid _ => by subst hid; exact hn⟩
/-- An object that is let go, or only read from then on. -/
theorem HRep.drop {w : World} {β : Bs} {hp : List Obj} (h : HRep w β hp) (id : Nat) (o : Obj) (hid : id < hp.length) (hd : ¬ live (hset hp id o) id)
    (ho : Stays w w (imm w β hp) (imm w β (hset hp id o)) → ObjEvo w (imm w β (hset hp id o)) (β id) (β id) (hget hp id) o) :
    Evo w β hp w β (hset hp id o) ∧ HRep w β (hset hp id o) := by
  have hne : ∀ j, live (hset hp id o) j → j ≠ id := fun j hl e => hd (e ▸ hl)
  obtain ⟨h1, h2⟩ := h.step (w' := w) (β' := β) (hp' := hset hp id o) (fun _ => False) rfl rfl rfl (Nat.le_refl _) (by rw [hset_len]; exact Nat.le_refl _) rfl (fun _ _ _ => rfl)
    (fun j _ hl => ⟨hget_hset_ne _ _ _ _ (hne j hl), rfl, fun _ _ _ => rfl⟩)
    (fun _ _ _ hn => hn.elim) (fun _ _ _ _ _ hn => hn.elim)
    (fun j hj => by
      by_cases e : j = id
      · subst e
        refine .inr fun hs => ?_
        rw [hget_hset_self _ _ _ hj]
        exact ho hs
      · exact .inl ⟨hget_hset_ne _ _ _ _ e, rfl⟩)
  exact ⟨h1, h2 fun _ hn => hn.elim⟩
/-- A row that is only read from then on: it still is what it was. -/
theorem HRep.freeze {w : World} {β : Bs} {hp : List Obj} (h : HRep w β hp) {id : Nat} {e : TypeId} {r : Row} {xs : List r.den} (hg : hget hp id = .row e r xs) :
    Evo w β hp w β (hset hp id (.fro e r xs)) ∧ HRep w β (hset hp id (.fro e r xs)) ∧ slRep w (imm w β (hset hp id (.fro e r xs))) r xs (ownVal (β id) xs.length) := by
  have hid : id < hp.length := hget_lt hg (by simp)
  have hd : ¬ live (hset hp id (.fro e r xs)) id := by unfold live; rw [hget_hset_self _ _ _ hid]; exact fun h => h
  have hrow := h.obj id hid
  unfold ObjRep at hrow
  rw [hg] at hrow
  have key : Stays w w (imm w β hp) (imm w β (hset hp id (.fro e r xs))) → slRep w (imm w β (hset hp id (.fro e r xs))) r xs (ownVal (β id) xs.length) := by
    intro hs
    rcases hrow with ⟨h0, rfl⟩ | ⟨g, cap, cells, h0, hgg, hsz, hl, hm, hall⟩
    · rw [h0]
      exact ⟨none, 0, rfl, Nat.le_refl _, .inl rfl⟩
    · rw [h0]
      refine ⟨some ⟨g, 0, none⟩, cap, rfl, hl, .inr ⟨g, 0, rfl, ⟨(Array.getElem?_eq_some_iff.1 hgg).1, ?_, ?_⟩, cells, e, (0, 0), hgg, fun i x hi => by rw [Nat.zero_add]; exact Row.rep_mono hs r x _ (hall i x hi)⟩⟩
      · rintro ⟨j, c, hl', hb⟩
        have hne : j ≠ id := fun e => hd (e ▸ hl')
        have hlj : live hp j := by
          unfold live at hl' ⊢
          rwa [hget_hset_ne _ _ _ _ hne] at hl'
        exact hne (h.dis j id g c cap hlj (live_row hg) hb h0)
      · exact h.no id g cap (live_row hg) h0
  obtain ⟨h1, h2⟩ := h.drop id (.fro e r xs) hid hd (fun hs => by rw [hg]; exact key hs)
  exact ⟨h1, h2, key h1.stays⟩
theorem HRep.kill {w : World} {β : Bs} {hp : List Obj} (h : HRep w β hp) {id : Nat} (hid : id < hp.length) : Evo w β hp w β (hset hp id .gone) ∧ HRep w β (hset hp id .gone) := by
  refine h.drop id .gone hid (by unfold live; rw [hget_hset_self _ _ _ hid]; exact fun h => h) fun _ => ?_
  cases hget hp id <;> exact trivial
/-- An object is turned where it lies (its block alone). -/
theorem HRep.turn {w : World} {β : Bs} {hp : List Obj} (h : HRep w β hp) {w' : World} {id g c : Nat} (o : Obj) (hl : live hp id) (hb : β id = some (g, c))
    (hos : w'.os = w.os) (htape : w'.tape = w.tape) (hout : w'.output = w.output) (hsize : w.heap.size ≤ w'.heap.size)
    (old : ∀ b, b < w.heap.size → b ≠ g → w'.heap[b]? = w.heap[b]?)
    (ho : ∀ ok, ObjEvo w' ok (β id) (β id) (hget hp id) o) :
    Evo w β hp w' β (hset hp id o) ∧ (ObjRep w' β (hset hp id o) id → HRep w' β (hset hp id o)) := by
  have hid := live_lt hl
  have hlv : ∀ j, j ≠ id → live (hset hp id o) j → live hp j := fun j hne hl' => by
    unfold live at hl' ⊢
    rwa [hget_hset_ne _ _ _ _ hne] at hl'
  obtain ⟨h1, h2⟩ := h.step (w' := w') (β' := β) (hp' := hset hp id o) (fun j => j = id) hos htape hout hsize (by rw [hset_len]; exact Nat.le_refl _) rfl
    (fun b hbs hm => old b hbs fun e => hm ⟨id, c, hl, e ▸ hb⟩)
    (fun j hn hl' => ⟨hget_hset_ne _ _ _ _ hn, rfl, fun g' c' hb' => old g' (h.lt (hlv j hn hl') hb') fun e => hn (h.dis j id g c' c (hlv j hn hl') hl (e ▸ hb') hb)⟩)
    (fun j g' c' hn _ hb' => .inr ⟨id, c', hl, by subst hn; exact hb', fun hn' => absurd rfl hn'⟩)
    (fun j j' _ _ _ hn hn' _ _ _ _ => hn.trans hn'.symm)
    (fun j hj => by
      by_cases e : j = id
      · subst e
        refine .inr fun hs => ?_
        rw [hget_hset_self _ _ _ hj]
        exact ho _
      · exact .inl ⟨hget_hset_ne _ _ _ _ e, rfl⟩)
  exact ⟨h1, fun hn => h2 fun j hj _ => by subst hj; exact hn⟩
/-- A row is let go, and another one takes its place: in its block, or in one of its own. -/
theorem HRep.swap {w : World} {β : Bs} {hp : List Obj} (h : HRep w β hp) {w' : World} {id : Nat} (o : Obj) (og : Option (Nat × Nat)) (hl : live hp id)
    (hos : w'.os = w.os) (htape : w'.tape = w.tape) (hout : w'.output = w.output) (hsize : w.heap.size ≤ w'.heap.size)
    (old : ∀ b, b < w.heap.size → (∀ c, β id ≠ some (b, c)) → w'.heap[b]? = w.heap[b]?)
    (hog : ∀ g c, og = some (g, c) → w.heap.size ≤ g ∨ ∃ c0, β id = some (g, c0)) :
    Evo w β hp w' (bnew β hp.length og) (hset hp id .gone ++ [o]) ∧ (ObjRep w' (bnew β hp.length og) (hset hp id .gone ++ [o]) hp.length → HRep w' (bnew β hp.length og) (hset hp id .gone ++ [o])) := by
  have hid := live_lt hl
  have hlen : (hset hp id .gone ++ [o]).length = hp.length + 1 := by simp [hset_len]
  have hget1 : ∀ j, j < hp.length → hget (hset hp id .gone ++ [o]) j = hget (hset hp id .gone) j := fun j hj => hget_append_lt _ _ _ (by rw [hset_len]; exact hj)
  have hlv : ∀ j, j ≠ hp.length → live (hset hp id .gone ++ [o]) j → j < hp.length ∧ j ≠ id ∧ live hp j := fun j hne hl' => by
    have h0 := live_lt hl'
    rw [hlen] at h0
    have h1 : j < hp.length := by omega
    have h2 : j ≠ id := fun e => by
      unfold live at hl'
      rw [hget1 j h1, e, hget_hset_self _ _ _ hid] at hl'
      exact hl'
    refine ⟨h1, h2, ?_⟩
    unfold live at hl' ⊢
    rwa [hget1 j h1, hget_hset_ne _ _ _ _ h2] at hl'
  obtain ⟨h1, h2⟩ := h.step (w' := w') (β' := bnew β hp.length og) (hp' := hset hp id .gone ++ [o]) (fun j => j = hp.length) hos htape hout hsize (by rw [hlen]; omega) rfl
    (fun b hbs hm => old b hbs fun c e => hm ⟨id, c, hl, e⟩)
    (fun j hn hl' => by
      obtain ⟨a1, a2, a3⟩ := hlv j hn hl'
      exact ⟨(hget1 j a1).trans (hget_hset_ne _ _ _ _ a2), bnew_ne _ _ hn, fun g c hb => old g (h.lt a3 hb) fun c' e => a2 (h.dis j id g c c' a3 hl hb e)⟩)
    (fun j g c hn _ hb => by
      subst hn
      rw [bnew_at] at hb
      rcases hog g c hb with a | ⟨c0, a⟩
      · exact .inl a
      · exact .inr ⟨id, c0, hl, a, fun hn hl' => (hlv id hn hl').2.1 rfl⟩)
    (fun j j' _ _ _ hn hn' _ _ _ _ => hn.trans hn'.symm)
    (fun j hj => by
      by_cases e : j = id
      · subst e
        refine .inr fun _ => ?_
        rw [hget1 j hj, hget_hset_self _ _ _ hj]
        cases hget hp j <;> exact trivial
      · exact .inl ⟨(hget1 j hj).trans (hget_hset_ne _ _ _ _ e), bnew_ne _ _ (by omega)⟩)
  refine ⟨h1, fun hn => h2 fun j hj _ => by subst hj; exact hn⟩
end Go.AX
