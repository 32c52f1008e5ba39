/- The abstract executor, part 2: how a state in memory is handed on over one step: an object made, turned, let go. -/
import Derived.Test.YtcfphoffpbncmaaAXA1
set_option linter.unusedVariables false
namespace Go.AX

theorem hget_ge : ∀ (hp : List Obj) (id : Nat), hp.length ≤ id → hget hp id = .gone
  | [], _, _ => rfl
  | _ :: l, 0, h => by simp at h
  | _ :: l, n + 1, h => hget_ge l n (by simpa using h)
theorem hget_append_lt : ∀ (hp l : List Obj) (id : Nat), id < hp.length → hget (hp ++ l) id = hget hp id
  | [], _, _, h => by simp at h
  | _ :: _, _, 0, _ => rfl
  | _ :: m, l, n + 1, h => hget_append_lt m l n (by simpa using h)
theorem hget_append_ge : ∀ (hp l : List Obj) (id : Nat), hget (hp ++ l) (hp.length + id) = hget l id
  | [], l, id => by simp
  | x :: m, l, id => by
    have : (x :: m).length + id = (m.length + id) + 1 := by simp; omega
    rw [this]
    exact hget_append_ge m l id
theorem hget_append_new (hp : List Obj) (o : Obj) : hget (hp ++ [o]) hp.length = o := hget_append_ge hp [o] 0
theorem hset_len : ∀ (hp : List Obj) (id : Nat) (o : Obj), (hset hp id o).length = hp.length
  | [], _, _ => rfl
  | _ :: _, 0, _ => rfl
  | _ :: m, n + 1, o => by simp [hset, hset_len m n o]
theorem hget_hset_self : ∀ (hp : List Obj) (id : Nat) (o : Obj), id < hp.length → hget (hset hp id o) id = o
  | [], _, _, h => by simp at h
  | _ :: _, 0, _, _ => rfl
  | _ :: m, n + 1, o, h => hget_hset_self m n o (by simpa using h)
theorem hget_hset_ne : ∀ (hp : List Obj) (id j : Nat) (o : Obj), j ≠ id → hget (hset hp id o) j = hget hp j
  | [], _, _, _, _ => rfl
  | _ :: _, 0, 0, _, h => absurd rfl h
  | _ :: _, 0, _ + 1, _, _ => rfl
  | _ :: _, _ + 1, 0, _, _ => rfl
  | _ :: m, n + 1, j + 1, o, h => hget_hset_ne m n j o (by omega)
theorem hget_lt {hp : List Obj} {id : Nat} {o : Obj} (h : hget hp id = o) (ho : o ≠ .gone) : id < hp.length := by
  rcases Nat.lt_or_ge id hp.length with h' | h'
  · exact h'
  · exact absurd ((hget_ge hp id h').symm.trans h).symm ho
theorem live_lt {hp : List Obj} {id : Nat} (h : live hp id) : id < hp.length := by
  rcases Nat.lt_or_ge id hp.length with h' | h'
  · exact h'
  · unfold live at h
    rw [hget_ge hp id h'] at h
    exact h.elim
theorem live_row {hp : List Obj} {id : Nat} {e : TypeId} {r : Row} {xs : List r.den} (h : hget hp id = .row e r xs) : live hp id := by unfold live; rw [h]; trivial
theorem live_box {hp : List Obj} {id : Nat} {e : TypeId} {cs : List CV} (h : hget hp id = .box e cs) : live hp id := by unfold live; rw [h]; trivial
theorem live_nest {hp : List Obj} {id : Nat} {e : TypeId} {pk : Option IntKind} {eb : TypeId} {r : Row} {xs : List (Int × List r.den)} {ov : Option (Nat × CV)} (h : hget hp id = .nest e pk eb r xs ov) : live hp id := by unfold live; rw [h]; trivial
theorem fp_get {hp hp' : List Obj} {id id' j : Nat} (h : hget hp id = hget hp' id') : fp hp id j ↔ fp hp' id' j := by unfold fp; rw [h]
/-- The block of an object that lives is there. -/
theorem HRep.ltj {w : World} {β : Bs} {hp : List Obj} (h : HRep w β hp) {id j g c : Nat} (hl : fp hp id j) (hb : β.f id j = some (g, c)) : g < w.heap.size := by
  have ho := h.obj id (live_lt (fp_live hl))
  unfold ObjRep at ho
  unfold fp at hl
  have key : ∀ o : Option (Nat × Nat), o = some (g, c) → ∀ {e : TypeId} {r : Row} {xs : List r.den} {ok : Nat → Prop}, rowObj w ok o e r xs → g < w.heap.size := by
    intro o ho e r xs ok hr
    rcases hr with ⟨h0, _⟩ | ⟨g', cap, cells, h0, hg, _⟩
    · rw [h0] at ho
      cases ho
    · rw [h0] at ho
      injection ho with ho
      injection ho with h0 h1
      subst h0
      exact (Array.getElem?_eq_some_iff.1 hg).1
  revert hl ho
  generalize hget hp id = o
  cases o with
  | row e r xs =>
    intro hl ho
    have hl : j = 0 := hl
    subst hl
    exact key _ hb ho
  | box e cs =>
    intro hl ho
    have hl : j = 0 := hl
    subst hl
    obtain ⟨g', c', cells, h0, hg, _⟩ := ho
    have h0 : β.f id 0 = some (g', c') := h0
    rw [hb] at h0
    injection h0 with h0
    injection h0 with h0 h1
    subst h0
    exact (Array.getElem?_eq_some_iff.1 hg).1
  | zbox e cs =>
    intro hl ho
    have hl : j = 0 := hl
    subst hl
    rcases ho with ho | ⟨g', c', cells, h0, hg, _⟩
    · have ho : β.f id 0 = none := ho
      rw [hb] at ho
      cases ho
    · have h0 : β.f id 0 = some (g', c') := h0
      rw [hb] at h0
      injection h0 with h0
      injection h0 with h0 h1
      subst h0
      exact (Array.getElem?_eq_some_iff.1 hg).1
  | nest e pk eb r xs ov =>
    rintro ⟨hj, hov⟩ ⟨g', cap, cells, h0, hg, _, _, _, _, hall⟩
    cases j with
    | zero =>
      rw [hb] at h0
      injection h0 with h0
      injection h0 with h0 h1
      subst h0
      exact (Array.getElem?_eq_some_iff.1 hg).1
    | succ i =>
      obtain ⟨_, u, _, _, hu⟩ := hall i _ (List.getElem?_eq_getElem (by omega))
      obtain ⟨_, hro⟩ := hu (fun q hq => by
        cases ov with
        | none => cases hq
        | some p =>
          injection hq with hq
          subst hq
          have := hov p rfl
          dsimp only
          omega)
      exact key _ hb hro
  | fro e r xs => exact fun h _ => h.elim
  | gone => exact fun h _ => h.elim
theorem HRep.lt {w : World} {β : Bs} {hp : List Obj} (h : HRep w β hp) {id g c : Nat} (hl : live hp id) (hb : β id = some (g, c)) : g < w.heap.size := h.ltj (live_fp hl) hb
theorem rowObj.mono {w w' : World} {ok ok' : Nat → Prop} (h : Stays w w' ok ok') {o : Option (Nat × Nat)} {e : TypeId} {r : Row} {xs : List r.den}
    (hb : ∀ g c, o = some (g, c) → w'.heap[g]? = w.heap[g]?) (hr : rowObj w ok o e r xs) : rowObj w' ok' o e r xs := by
  rcases hr with hr | ⟨g, cap, cells, ho, hg, hs, hl, hm, hall⟩
  · exact .inl hr
  · exact .inr ⟨g, cap, cells, ho, by rw [hb g cap ho]; exact hg, hs, hl, hm, fun i x hi => Row.rep_mono h r x _ (hall i x hi)⟩
theorem nestO.mono {w w' : World} {ok ok' : Nat → Prop} (h : Stays w w' ok ok') {F F' : Fp} {e : TypeId} {pk : Option IntKind} {eb : TypeId} {r : Row} {xs : List (Int × List r.den)} {ov ov' : Option (Nat × (Value → Prop))}
    (hF : ∀ j, j ≤ xs.length → (∀ q, ov' = some q → j ≠ q.1 + 1) → F' j = F j) (hb : ∀ j g c, j ≤ xs.length → (∀ q, ov' = some q → j ≠ q.1 + 1) → F j = some (g, c) → w'.heap[g]? = w.heap[g]?)
    (hov : ∀ q', ov' = some q' → ∃ q, ov = some q ∧ q.1 = q'.1 ∧ ∀ u, q.2 u → q'.2 u) (hov' : ∀ q, ov = some q → ∃ q', ov' = some q' ∧ q'.1 = q.1) (hr : nestO w ok F e pk eb r xs ov) : nestO w' ok' F' e pk eb r xs ov' := by
  obtain ⟨g, cap, cells, h0, hg, h1, h2, h3, h4, hall⟩ := hr
  refine ⟨g, cap, cells, by rw [hF 0 (Nat.zero_le _) (fun q _ => by omega)]; exact h0, by rw [hb 0 g cap (Nat.zero_le _) (fun q _ => by omega) h0]; exact hg, h1, h2, h3, (fun q' hq' => by
    obtain ⟨q, hq, e1, _⟩ := hov q' hq'
    have := h4 q hq
    omega), fun i x hx => ?_⟩
  obtain ⟨k1, u, k2, k3, k4⟩ := hall i x hx
  have hi := (List.getElem?_eq_some_iff.1 hx).1
  refine ⟨k1, u, k2, fun q' hq' he => ?_, fun hn => ?_⟩
  · obtain ⟨q, hq, e1, hi'⟩ := hov q' hq'
    exact hi' u (k3 q hq (e1.trans he))
  · obtain ⟨a1, a2⟩ := k4 (fun q hq e1 => by
      obtain ⟨q', hq', e2⟩ := hov' q hq
      exact hn q' hq' (e2.trans e1))
    have hn' : ∀ q, ov' = some q → i + 1 ≠ q.1 + 1 := fun q hq e1 => hn q hq (by omega)
    rw [hF (i + 1) (by omega) hn']
    exact ⟨a1, a2.mono h fun g c he => hb (i + 1) g c (by omega) hn' he⟩
/-- One step. N: the objects that are made or turned. -/
theorem HRep.stepS {s : Prop} {w : World} {β : Bs} {hp : List Obj} {w' : World} {β' : Bs} {hp' : List Obj} (h : HRep w β hp) (N : Nat → Prop)
    (hos : w'.os = w.os) (htape : w'.tape = w.tape) (hout : w'.output = w.output) (hsize : w.heap.size ≤ w'.heap.size) (hlen : hp.length ≤ hp'.length) (hbo : β'.out = β.out)
    (ext : ∀ b, b < w.heap.size → ¬ mutb β hp b → w'.heap[b]? = w.heap[b]?)
    (keep : ∀ id, ¬ N id → live hp' id → hget hp' id = hget hp id ∧ β'.f id = β.f id ∧ ∀ j g c, fp hp id j → β.f id j = some (g, c) → w'.heap[g]? = w.heap[g]?)
    (own : ∀ id j g c, N id → fp hp' id j → β'.f id j = some (g, c) → w.heap.size ≤ g ∨ ∃ id0 j0 c0, fp hp id0 j0 ∧ β.f id0 j0 = some (g, c0) ∧ (¬ N id0 → ¬ live hp' id0))
    (dis : ∀ id id' j j' g c c', N id → N id' → fp hp' id j → fp hp' id' j' → β'.f id j = some (g, c) → β'.f id' j' = some (g, c') → id = id' ∧ j = j')
    (oevo : ∀ id, id < hp.length → hget hp' id = hget hp id ∧ β'.f id = β.f id ∨ (Stays w w' (imm w β hp) (imm w' β' hp') → ObjEvo s w' (imm w' β' hp') (β id) (β' id) (hget hp id) (hget hp' id))) :
    EvoS s w β hp w' β' hp' ∧ ((∀ id, N id → id < hp'.length → ObjRep w' β' hp' id) → HRep w' β' hp') := by
  have keepFp : ∀ id j, ¬ N id → fp hp' id j → fp hp id j := fun id j hn hl => (fp_get (keep id hn (fp_live hl)).1).1 hl
  have fresh : ∀ b, mutb β' hp' b → mutb β hp b ∨ w.heap.size ≤ b := by
    rintro b ⟨id, j, c, hl, hb⟩
    by_cases hn : N id
    · rcases own id j b c hn hl hb with h1 | ⟨id0, j0, c0, h1, h2, _⟩
      · exact .inr h1
      · exact .inl ⟨id0, j0, c0, h1, h2⟩
    · exact .inl ⟨id, j, c, keepFp id j hn hl, by rw [← (keep id hn (fp_live hl)).2.1]; exact hb⟩
  have stays : Stays w w' (imm w β hp) (imm w' β' hp') := by
    intro b hb
    refine ⟨⟨Nat.lt_of_lt_of_le hb.1 hsize, fun hm => ?_, by rw [hbo]; exact hb.2.2⟩, fun c e fz hc => ⟨fz, by rw [ext b hb.1 hb.2.1]; exact hc⟩⟩
    rcases fresh b hm with hm | hm
    · exact hb.2.1 hm
    · exact absurd hb.1 (by omega)
  have evo : EvoS s w β hp w' β' hp' := ⟨hos, htape, hout, hsize, ext, fresh, hlen, hbo, fun id hid => by
    rcases oevo id hid with ⟨h1, h2⟩ | h1
    · rw [h1]
      show ObjEvo s _ _ (β.f id 0) (β'.f id 0) _ _
      rw [h2]
      exact ObjEvo.refl _
    · exact h1 stays⟩
  refine ⟨evo, fun hN => ⟨fun id hid => ?_, fun id id' j j' g c c' hl hl' hb hb' => ?_, fun id j g c hl hb ho => ?_, fun b hb => Nat.lt_of_lt_of_le (h.old b (by rw [← hbo]; exact hb)) hsize⟩⟩
  · by_cases hn : N id
    · exact hN id hn hid
    · by_cases hl : live hp' id
      · obtain ⟨h1, h2, h3⟩ := keep id hn hl
        have hl0 : live hp id := by
          unfold live
          rw [← h1]
          exact hl
        have ho := h.obj id (live_lt hl0)
        have h2' : β' id = β id := congrFun h2 0
        unfold ObjRep at ho ⊢
        rw [h1, h2', h2]
        revert ho
        split
        · rename_i hg
          exact fun ho => rowObj.mono stays (fun g c hb => h3 0 g c (live_fp (live_row hg)) hb) ho
        · rename_i hg
          rintro ⟨g, c, cells, hb, hgg, hr, h1⟩
          exact ⟨g, c, cells, hb, by rw [h3 0 g c (live_fp (live_box hg)) hb]; exact hgg, evo.cvs hr, h1⟩
        · rename_i hg
          rintro (hb | ⟨g, c, cells, hb, hgg, hr, h1⟩)
          · exact .inl hb
          · exact .inr ⟨g, c, cells, hb, by rw [h3 0 g c (by unfold fp; rw [hg]; exact rfl) hb]; exact hgg, evo.cvs hr, h1⟩
        · rename_i e pk eb r xs ov hg
          refine fun ho => nestO.mono stays (fun _ _ _ => rfl) (fun j g c hj hq hb => h3 j g c ?_ hb) (fun q' hq' => ?_) (fun q hq => ?_) ho
          · unfold fp fpO
            rw [hg]
            refine ⟨hj, fun p hp => hq (p.1, p.2.rep w' β' hp') ?_⟩
            rw [hp]
            rfl
          · cases ov with
            | none => cases hq'
            | some p =>
              injection hq' with hq'
              subst hq'
              exact ⟨_, rfl, rfl, fun u hu => evo.cv hu⟩
          · cases ov with
            | none => cases hq
            | some p =>
              injection hq with hq
              subst hq
              exact ⟨_, rfl, rfl⟩
        · exact fun _ => trivial
      · unfold ObjRep
        unfold live at hl
        split
        · rename_i e1
          rw [e1] at hl
          exact absurd trivial hl
        · rename_i e1
          rw [e1] at hl
          exact absurd trivial hl
        · rename_i e1
          rw [e1] at hl
          exact absurd trivial hl
        · rename_i e1
          rw [e1] at hl
          exact absurd trivial hl
        · trivial
  · by_cases hn : N id
    · by_cases hn' : N id'
      · exact dis id id' j j' g c c' hn hn' hl hl' hb hb'
      · exfalso
        obtain ⟨h1, h2, h3⟩ := keep id' hn' (fp_live hl')
        rw [h2] at hb'
        rcases own id j g c hn hl hb with h4 | ⟨id0, j0, c0, h4, h5, h6⟩
        · have := h.ltj (keepFp id' j' hn' hl') hb'
          omega
        · have := (h.diss id0 id' j0 j' g c0 c' h4 (keepFp id' j' hn' hl') h5 hb').1
          subst this
          exact h6 hn' (fp_live hl')
    · obtain ⟨h1, h2, h3⟩ := keep id hn (fp_live hl)
      rw [h2] at hb
      by_cases hn' : N id'
      · exfalso
        rcases own id' j' g c' hn' hl' hb' with h4 | ⟨id0, j0, c0, h4, h5, h6⟩
        · have := h.ltj (keepFp id j hn hl) hb
          omega
        · have := (h.diss id0 id j0 j g c0 c h4 (keepFp id j hn hl) h5 hb).1
          subst this
          exact h6 hn (fp_live hl)
      · obtain ⟨h1', h2', h3'⟩ := keep id' hn' (fp_live hl')
        rw [h2'] at hb'
        exact h.diss id id' j j' g c c' (keepFp id j hn hl) (keepFp id' j' hn' hl') hb hb'
  · rw [hbo] at ho
    by_cases hn : N id
    · rcases own id j g c hn hl hb with h4 | ⟨id0, j0, c0, h4, h5, _⟩
      · have := h.old g ho
        omega
      · exact h.nos id0 j0 g c0 h4 h5 ho
    · obtain ⟨h1, h2, h3⟩ := keep id hn (fp_live hl)
      rw [h2] at hb
      exact h.nos id j g c (keepFp id j hn hl) hb ho

theorem HRep.step {w : World} {β : Bs} {hp : List Obj} {w' : World} {β' : Bs} {hp' : List Obj} (h : HRep w β hp) (N : Nat → Prop)
    (hos : w'.os = w.os) (htape : w'.tape = w.tape) (hout : w'.output = w.output) (hsize : w.heap.size ≤ w'.heap.size) (hlen : hp.length ≤ hp'.length) (hbo : β'.out = β.out)
    (ext : ∀ b, b < w.heap.size → ¬ mutb β hp b → w'.heap[b]? = w.heap[b]?)
    (keep : ∀ id, ¬ N id → live hp' id → hget hp' id = hget hp id ∧ β'.f id = β.f id ∧ ∀ j g c, fp hp id j → β.f id j = some (g, c) → w'.heap[g]? = w.heap[g]?)
    (own : ∀ id j g c, N id → fp hp' id j → β'.f id j = some (g, c) → w.heap.size ≤ g ∨ ∃ id0 j0 c0, fp hp id0 j0 ∧ β.f id0 j0 = some (g, c0) ∧ (¬ N id0 → ¬ live hp' id0))
    (dis : ∀ id id' j j' g c c', N id → N id' → fp hp' id j → fp hp' id' j' → β'.f id j = some (g, c) → β'.f id' j' = some (g, c') → id = id' ∧ j = j')
    (oevo : ∀ id, id < hp.length → hget hp' id = hget hp id ∧ β'.f id = β.f id ∨ (Stays w w' (imm w β hp) (imm w' β' hp') → ObjEvo True w' (imm w' β' hp') (β id) (β' id) (hget hp id) (hget hp' id))) :
    Evo w β hp w' β' hp' ∧ ((∀ id, N id → id < hp'.length → ObjRep w' β' hp' id) → HRep w' β' hp') := h.stepS (s := True) N hos htape hout hsize hlen hbo ext keep own dis oevo
/-- Whose blocks are told by one place alone. -/
def fp1 (o : Option (Nat × Nat)) : Fp
  | 0 => o
  | _ => none
/-- The blocks when one more object is there. -/
def bnewF (β : Bs) (n : Nat) (F : Fp) : Bs := ⟨fun id => if id = n then F else β.f id, β.out⟩
abbrev bnew (β : Bs) (n : Nat) (o : Option (Nat × Nat)) : Bs := bnewF β n (fp1 o)
theorem bnewF_at (β : Bs) (n : Nat) (F : Fp) : (bnewF β n F).f n = F := by simp [bnewF]
theorem bnewF_ne (β : Bs) {n j : Nat} (F : Fp) (h : j ≠ n) : (bnewF β n F).f j = β.f j := by simp [bnewF, h]
theorem bnew_at (β : Bs) (n : Nat) (o : Option (Nat × Nat)) : bnew β n o n = o := by simp [bnewF, Bs.main, fp1]
theorem bnew_ne (β : Bs) {n j : Nat} (o : Option (Nat × Nat)) (h : j ≠ n) : bnew β n o j = β j := by simp [bnewF, Bs.main, h]
/-- An object more, in blocks of its own. -/
theorem HRep.newF {w : World} {β : Bs} {hp : List Obj} (h : HRep w β hp) {w' : World} (o : Obj) (F : Fp)
    (hos : w'.os = w.os) (htape : w'.tape = w.tape) (hout : w'.output = w.output) (hsize : w.heap.size ≤ w'.heap.size)
    (old : ∀ b, b < w.heap.size → w'.heap[b]? = w.heap[b]?) (hog : ∀ j g c, fpO o j → F j = some (g, c) → w.heap.size ≤ g) (hd : ∀ j j' g c c', fpO o j → fpO o j' → F j = some (g, c) → F j' = some (g, c') → j = j') :
    Evo w β hp w' (bnewF β hp.length F) (hp ++ [o]) ∧ (ObjRep w' (bnewF β hp.length F) (hp ++ [o]) hp.length → HRep w' (bnewF β hp.length F) (hp ++ [o])) := by
  have hlt : ∀ id, id ≠ hp.length → live (hp ++ [o]) id → id < hp.length := fun id hn hl => by
    have := live_lt hl
    simp at this
    omega
  have hfpn : ∀ j, fp (hp ++ [o]) hp.length j → fpO o j := fun j hj => by
    unfold fp at hj
    rwa [hget_append_new] at hj
  obtain ⟨h1, h2⟩ := h.step (w' := w') (β' := bnewF β hp.length F) (hp' := hp ++ [o]) (fun id => id = hp.length) hos htape hout hsize (by simp) rfl (fun b hb _ => old b hb)
    (fun id hn hl => ⟨hget_append_lt _ _ _ (hlt id hn hl), bnewF_ne _ _ hn, fun j g c hf hb => old g (h.ltj hf hb)⟩)
    (fun id j g c hn hl hb => .inl (by
      subst hn
      rw [bnewF_at] at hb
      exact hog j g c (hfpn j hl) hb))
    (fun id id' j j' g c c' hn hn' hl hl' hb hb' => by
      subst hn hn'
      rw [bnewF_at] at hb hb'
      exact ⟨rfl, hd j j' g c c' (hfpn j hl) (hfpn j' hl') hb hb'⟩)
    (fun id hid => .inl ⟨hget_append_lt _ _ _ hid, bnewF_ne _ _ (by omega)⟩)
  exact ⟨h1, fun hn => h2 fun id hid _ => by subst hid; exact hn⟩
theorem HRep.new {w : World} {β : Bs} {hp : List Obj} (h : HRep w β hp) {w' : World} (o : Obj) (og : Option (Nat × Nat))
    (hos : w'.os = w.os) (htape : w'.tape = w.tape) (hout : w'.output = w.output) (hsize : w.heap.size ≤ w'.heap.size)
    (old : ∀ b, b < w.heap.size → w'.heap[b]? = w.heap[b]?) (hog : ∀ g c, og = some (g, c) → w.heap.size ≤ g) :
    Evo w β hp w' (bnew β hp.length og) (hp ++ [o]) ∧ (ObjRep w' (bnew β hp.length og) (hp ++ [o]) hp.length → HRep w' (bnew β hp.length og) (hp ++ [o])) :=
  h.newF o (fp1 og) hos htape hout hsize old (fun j g c _ hb => by
    cases j with
    | zero => exact hog g c hb
    | succ j => cases hb) (fun j j' g c c' _ _ hb hb' => by
    cases j with
    | succ j => cases hb
    | zero => cases j' with
      | succ j => cases hb'
      | zero => rfl)
/-- An object that is let go, or only read from then on. -/
theorem HRep.drop {w : World} {β : Bs} {hp : List Obj} (h : HRep w β hp) (id : Nat) (o : Obj) (hid : id < hp.length) (hd : ¬ live (hset hp id o) id)
    (ho : Stays w w (imm w β hp) (imm w β (hset hp id o)) → ObjEvo True w (imm w β (hset hp id o)) (β id) (β id) (hget hp id) o) :
    Evo w β hp w β (hset hp id o) ∧ HRep w β (hset hp id o) := by
  have hne : ∀ j, live (hset hp id o) j → j ≠ id := fun j hl e => hd (e ▸ hl)
  obtain ⟨h1, h2⟩ := h.step (w' := w) (β' := β) (hp' := hset hp id o) (fun _ => False) rfl rfl rfl (Nat.le_refl _) (by rw [hset_len]; exact Nat.le_refl _) rfl (fun _ _ _ => rfl)
    (fun j _ hl => ⟨hget_hset_ne _ _ _ _ (hne j hl), rfl, fun _ _ _ _ _ => rfl⟩)
    (fun _ _ _ _ hn => hn.elim) (fun _ _ _ _ _ _ _ hn => hn.elim)
    (fun j hj => by
      by_cases e : j = id
      · subst e
        refine .inr fun hs => ?_
        rw [hget_hset_self _ _ _ hj]
        exact ho hs
      · exact .inl ⟨hget_hset_ne _ _ _ _ e, rfl⟩)
  exact ⟨h1, h2 fun _ hn => hn.elim⟩
/-- A row that is only read from then on: it still is what it was. -/
theorem HRep.freeze {w : World} {β : Bs} {hp : List Obj} (h : HRep w β hp) {id : Nat} {e : TypeId} {r : Row} {xs : List r.den} (hg : hget hp id = .row e r xs) :
    Evo w β hp w β (hset hp id (.fro e r xs)) ∧ HRep w β (hset hp id (.fro e r xs)) ∧ slRep w (imm w β (hset hp id (.fro e r xs))) r xs (ownVal (β id) xs.length) := by
  have hid : id < hp.length := hget_lt hg (by simp)
  have hd : ¬ live (hset hp id (.fro e r xs)) id := by unfold live; rw [hget_hset_self _ _ _ hid]; exact fun h => h
  have hrow := h.obj id hid
  unfold ObjRep at hrow
  rw [hg] at hrow
  have key : Stays w w (imm w β hp) (imm w β (hset hp id (.fro e r xs))) → slRep w (imm w β (hset hp id (.fro e r xs))) r xs (ownVal (β id) xs.length) := by
    intro hs
    rcases hrow with ⟨h0, rfl⟩ | ⟨g, cap, cells, h0, hgg, hsz, hl, hm, hall⟩
    · rw [h0]
      exact ⟨none, 0, rfl, Nat.le_refl _, .inl rfl⟩
    · rw [h0]
      refine ⟨some ⟨g, 0, none⟩, cap, rfl, hl, .inr ⟨g, 0, rfl, ⟨(Array.getElem?_eq_some_iff.1 hgg).1, ?_, ?_⟩, cells, e, (0, 0), hgg, fun i x hi => by rw [Nat.zero_add]; exact Row.rep_mono hs r x _ (hall i x hi)⟩⟩
      · rintro ⟨j, jj, c, hl', hb⟩
        have hne : j ≠ id := fun e => by
          subst e
          exact hd (fp_live hl')
        have hlj : fp hp j jj := (fp_get (hget_hset_ne _ _ _ _ hne)).1 hl'
        exact hne (h.diss j id jj 0 g c cap hlj (live_fp (live_row hg)) hb h0).1
      · exact h.no id g cap (live_row hg) h0
  obtain ⟨h1, h2⟩ := h.drop id (.fro e r xs) hid hd (fun hs => by rw [hg]; exact key hs)
  exact ⟨h1, h2, key h1.stays⟩
theorem HRep.kill {w : World} {β : Bs} {hp : List Obj} (h : HRep w β hp) {id : Nat} (hid : id < hp.length) (hz : ∀ e cs, hget hp id ≠ .zbox e cs) : Evo w β hp w β (hset hp id .gone) ∧ HRep w β (hset hp id .gone) := by
  refine h.drop id .gone hid (by unfold live; rw [hget_hset_self _ _ _ hid]; exact fun h => h) fun _ => ?_
  revert hz
  cases hget hp id with
  | zbox e cs => exact fun hz => absurd rfl (hz e cs)
  | _ => exact fun _ => trivial
/-- An object is turned where it lies (its main block alone). -/
theorem HRep.turn {w : World} {β : Bs} {hp : List Obj} (h : HRep w β hp) {w' : World} {id g c : Nat} (o : Obj) (hl : live hp id) (hb : β id = some (g, c)) (hfo : ∀ j, fpO o j → fp hp id j)
    (hos : w'.os = w.os) (htape : w'.tape = w.tape) (hout : w'.output = w.output) (hsize : w.heap.size ≤ w'.heap.size)
    (old : ∀ b, b < w.heap.size → b ≠ g → w'.heap[b]? = w.heap[b]?)
    (ho : ∀ ok, ObjEvo True w' ok (β id) (β id) (hget hp id) o) :
    Evo w β hp w' β (hset hp id o) ∧ (ObjRep w' β (hset hp id o) id → HRep w' β (hset hp id o)) := by
  have hid := live_lt hl
  have hlv : ∀ j jj, j ≠ id → fp (hset hp id o) j jj → fp hp j jj := fun j jj hne hl' => (fp_get (hget_hset_ne _ _ _ _ hne)).1 hl'
  have hself : ∀ j, fp (hset hp id o) id j → fp hp id j := fun j hj => by
    unfold fp at hj
    rw [hget_hset_self _ _ _ hid] at hj
    exact hfo j hj
  obtain ⟨h1, h2⟩ := h.step (w' := w') (β' := β) (hp' := hset hp id o) (fun j => j = id) hos htape hout hsize (by rw [hset_len]; exact Nat.le_refl _) rfl
    (fun b hbs hm => old b hbs fun e => hm ⟨id, 0, c, live_fp hl, e ▸ hb⟩)
    (fun j hn hl' => ⟨hget_hset_ne _ _ _ _ hn, rfl, fun jj g' c' hf hb' => old g' (h.ltj hf hb') fun e => hn (h.diss j id jj 0 g c' c hf (live_fp hl) (e ▸ hb') hb).1⟩)
    (fun j jj g' c' hn hf hb' => .inr ⟨id, jj, c', by subst hn; exact hself jj hf, by subst hn; exact hb', fun hn' => absurd rfl hn'⟩)
    (fun j j' jj jj' g1 c1 c2 hn hn' hf hf' hb1 hb2 => by
      subst hn hn'
      exact ⟨rfl, (h.diss _ _ jj jj' g1 c1 c2 (hself _ hf) (hself _ hf') hb1 hb2).2⟩)
    (fun j hj => by
      by_cases e : j = id
      · subst e
        refine .inr fun hs => ?_
        rw [hget_hset_self _ _ _ hj]
        exact ho _
      · exact .inl ⟨hget_hset_ne _ _ _ _ e, rfl⟩)
  exact ⟨h1, fun hn => h2 fun j hj _ => by subst hj; exact hn⟩
/-- An object is let go, and another one takes its place: in its blocks, or in others of its own. -/
theorem HRep.swapF {w : World} {β : Bs} {hp : List Obj} (h : HRep w β hp) {w' : World} {id : Nat} (o : Obj) (F : Fp) (hl : live hp id) (hz : ∀ e cs, hget hp id ≠ .zbox e cs)
    (hos : w'.os = w.os) (htape : w'.tape = w.tape) (hout : w'.output = w.output) (hsize : w.heap.size ≤ w'.heap.size)
    (old : ∀ b, b < w.heap.size → (∀ c, β id ≠ some (b, c)) → w'.heap[b]? = w.heap[b]?)
    (hog : ∀ j g c, fpO o j → F j = some (g, c) → w.heap.size ≤ g ∨ ∃ j0 c0, fp hp id j0 ∧ β.f id j0 = some (g, c0))
    (hd : ∀ j j' g c c', fpO o j → fpO o j' → F j = some (g, c) → F j' = some (g, c') → j = j') :
    Evo w β hp w' (bnewF β hp.length F) (hset hp id .gone ++ [o]) ∧ (ObjRep w' (bnewF β hp.length F) (hset hp id .gone ++ [o]) hp.length → HRep w' (bnewF β hp.length F) (hset hp id .gone ++ [o])) := by
  have hid := live_lt hl
  have hlen : (hset hp id .gone ++ [o]).length = hp.length + 1 := by simp [hset_len]
  have hget1 : ∀ j, j < hp.length → hget (hset hp id .gone ++ [o]) j = hget (hset hp id .gone) j := fun j hj => hget_append_lt _ _ _ (by rw [hset_len]; exact hj)
  have hnew : hget (hset hp id .gone ++ [o]) hp.length = o := by
    have := hget_append_new (hset hp id .gone) o
    rwa [hset_len] at this
  have hlv : ∀ j, j ≠ hp.length → live (hset hp id .gone ++ [o]) j → j < hp.length ∧ j ≠ id ∧ hget (hset hp id .gone ++ [o]) j = hget hp j := fun j hne hl' => by
    have h0 := live_lt hl'
    rw [hlen] at h0
    have h1 : j < hp.length := by omega
    have h2 : j ≠ id := fun e => by
      unfold live at hl'
      rw [hget1 j h1, e, hget_hset_self _ _ _ hid] at hl'
      exact hl'
    exact ⟨h1, h2, by rw [hget1 j h1, hget_hset_ne _ _ _ _ h2]⟩
  have hfpn : ∀ j, fp (hset hp id .gone ++ [o]) hp.length j → fpO o j := fun j hj => by
    unfold fp at hj
    rwa [hnew] at hj
  obtain ⟨h1, h2⟩ := h.step (w' := w') (β' := bnewF β hp.length F) (hp' := hset hp id .gone ++ [o]) (fun j => j = hp.length) hos htape hout hsize (by rw [hlen]; omega) rfl
    (fun b hbs hm => old b hbs fun c e => hm ⟨id, 0, c, live_fp hl, e⟩)
    (fun j hn hl' => by
      obtain ⟨a1, a2, a3⟩ := hlv j hn hl'
      exact ⟨a3, bnewF_ne _ _ hn, fun jj g c hf hb => old g (h.ltj hf hb) fun c' e => a2 (h.diss j id jj 0 g c c' hf (live_fp hl) hb e).1⟩)
    (fun j jj g c hn hf hb => by
      subst hn
      rw [bnewF_at] at hb
      rcases hog jj g c (hfpn jj hf) hb with a | ⟨j0, c0, a1, a2⟩
      · exact .inl a
      · exact .inr ⟨id, j0, c0, a1, a2, fun hn hl' => (hlv id hn hl').2.1 rfl⟩)
    (fun j j' jj jj' g c c' hn hn' hf hf' hb hb' => by
      subst hn hn'
      rw [bnewF_at] at hb hb'
      exact ⟨rfl, hd jj jj' g c c' (hfpn jj hf) (hfpn jj' hf') hb hb'⟩)
    (fun j hj => by
      by_cases e : j = id
      · subst e
        refine .inr fun _ => ?_
        rw [hget1 j hj, hget_hset_self _ _ _ hj]
        revert hz
        cases hget hp j with
        | zbox e cs => exact fun hz => absurd rfl (hz e cs)
        | _ => exact fun _ => trivial
      · exact .inl ⟨(hget1 j hj).trans (hget_hset_ne _ _ _ _ e), bnewF_ne _ _ (by omega)⟩)
  refine ⟨h1, fun hn => h2 fun j hj _ => by subst hj; exact hn⟩
theorem HRep.swap {w : World} {β : Bs} {hp : List Obj} (h : HRep w β hp) {w' : World} {id : Nat} (o : Obj) (og : Option (Nat × Nat)) (hl : live hp id) (hz : ∀ e cs, hget hp id ≠ .zbox e cs)
    (hos : w'.os = w.os) (htape : w'.tape = w.tape) (hout : w'.output = w.output) (hsize : w.heap.size ≤ w'.heap.size)
    (old : ∀ b, b < w.heap.size → (∀ c, β id ≠ some (b, c)) → w'.heap[b]? = w.heap[b]?)
    (hog : ∀ g c, og = some (g, c) → w.heap.size ≤ g ∨ ∃ c0, β id = some (g, c0)) :
    Evo w β hp w' (bnew β hp.length og) (hset hp id .gone ++ [o]) ∧ (ObjRep w' (bnew β hp.length og) (hset hp id .gone ++ [o]) hp.length → HRep w' (bnew β hp.length og) (hset hp id .gone ++ [o])) :=
  h.swapF o (fp1 og) hl hz hos htape hout hsize old (fun j g c _ hb => by
    cases j with
    | zero => exact (hog g c hb).imp (fun h => h) fun ⟨c0, h0⟩ => ⟨0, c0, live_fp hl, h0⟩
    | succ j => cases hb) (fun j j' g c c' _ _ hb hb' => by
    cases j with
    | succ j => cases hb
    | zero => cases j' with
      | succ j => cases hb'
      | zero => rfl)
end Go.AX
