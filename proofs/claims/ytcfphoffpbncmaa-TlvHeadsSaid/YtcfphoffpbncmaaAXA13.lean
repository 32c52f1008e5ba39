/- The abstract executor, part 13: an operation hangs on its operands alone, and has one outcome. -/
import Derived.Test.YtcfphoffpbncmaaAXA12
set_option linter.unusedVariables false
set_option linter.unusedSimpArgs false
namespace Go.AX
open Go.RowKit
section
variable {P : Program} {E : Env} {spec : Sp}
/-! ### The same operands, the same outcome -/
theorem aparts_cong {st st' : St} : ∀ (l : List (Nat × Operand)) (j : Nat) (hp : List Obj) {K : List (List CV) → List Obj → Prop}, (∀ p ∈ l, st'.ev p.2 = st.ev p.2) → aparts st j hp l K → aparts st' j hp l K
  | [], _, _, _, _, h => h
  | (i, x) :: l, j, hp, K, hx, h => by
    unfold aparts at h ⊢
    rw [hx (i, x) (by simp)]
    split at h
    · rename_i hij
      rw [if_pos hij]
      dsimp only
      split at h
      · exact aparts_cong l _ _ (fun p hp => hx p (by simp [hp])) h
      · exact h.elim
    · exact h.elim
theorem abuild_cong {pl : List (Nat × Nat)} {st st' : St} (hh : st'.hp = st.hp) : ∀ (l : List (Nat × Operand)) (cs : List CV) {K : List CV → Prop}, (∀ p ∈ l, st'.ev p.2 = st.ev p.2) → abuild pl st l cs K → abuild pl st' l cs K
  | [], _, _, _, h => h
  | (f, x) :: l, cs, K, hx, h => by
    unfold abuild at h ⊢
    rw [hx (f, x) (by simp), hh]
    split at h
    · rename_i h1 h2
      split at h
      · rename_i hc
        dsimp only
        rw [h1, h2]
        dsimp only
        rw [if_pos hc]
        exact abuild_cong hh l _ (fun p hp => hx p (by simp [hp])) h
      · exact h.elim
    · exact h.elim
theorem acargs_cong {st st' : St} : ∀ (l : List Operand) (hp : List Obj) {K : List TV → List Obj → Prop}, (∀ p ∈ l, st'.ev p = st.ev p) → acargs st hp l K → acargs st' hp l K
  | [], _, _, _, h => h
  | x :: l, hp, K, hx, h => by
    unfold acargs at h ⊢
    rw [hx x (by simp)]
    split at h
    · dsimp only at h ⊢
      split at h
      · exact acargs_cong l _ (fun p hp => hx p (by simp [hp])) h
      · exact h.elim
    · dsimp only at h ⊢
      split at h
      · exact acargs_cong l _ (fun p hp => hx p (by simp [hp])) h
      · exact h.elim
    · exact h.elim
theorem anparts_cong {pk : Option IntKind} {st st' : St} : ∀ (l : List (Nat × Operand)) {K : List Int → Prop}, (∀ p ∈ l, st'.ev p.2 = st.ev p.2) → anparts pk st l K → anparts pk st' l K
  | [], _, _, h => h
  | (i, x) :: l, K, hx, h => by
    unfold anparts at h ⊢
    rw [hx (i, x) (by simp)]
    split at h
    · rename_i heq
      split at h
      · rename_i hk
        simp only [heq]
        rw [if_pos hk]
        exact anparts_cong l (fun p hp => hx p (by simp [hp])) h
      · exact h.elim
    · rename_i heq
      simp only [heq]
      exact anparts_cong l (fun p hp => hx p (by simp [hp])) h
    · exact h.elim
theorem iargs_cong {st st' : St} (hh : st'.hp = st.hp) : ∀ (md : List Md) (l : List Operand) (used : List Nat), (∀ p ∈ l, st'.ev p = st.ev p) → iargs st' used md l = iargs st used md l
  | [], [], _, _ => rfl
  | d :: ds, x :: l, used, hx => by
    unfold iargs
    rw [hx x (by simp), hh]
    cases iarg st.hp used d (st.ev x) with
    | none => rfl
    | some p =>
      dsimp only
      rw [iargs_cong hh ds l _ (fun p hp => hx p (by simp [hp]))]
  | [], _ :: _, _, _ => rfl
  | _ :: _, [], _, _ => rfl
theorem lentOk_cong {st st' : St} : ∀ (md : List Md) (l : List Operand) (used : List Nat), (∀ p ∈ l, st'.ev p = st.ev p) → lentOk st' used md l = lentOk st used md l
  | [], _, _, _ => by simp [lentOk]
  | d :: ds, [], _, _ => by cases d <;> simp [lentOk]
  | d :: ds, x :: l, used, hx => by
    have ih := lentOk_cong ds l used (fun p hp => hx p (by simp [hp]))
    cases d <;> simp [lentOk, hx x (by simp), ih]
theorem icall_cong {I : ISpec} {st st' : St} (hh : st'.hp = st.hp) {l : List Operand} {K : AV → List Obj → Prop} (hx : ∀ p ∈ l, st'.ev p = st.ev p) (h : icall I st l K) : icall I st' l K := by
  unfold icall at h ⊢
  rw [iargs_cong hh I.md l [] hx, hh]
  split at h
  · rename_i ts used io heq
    rw [lentOk_cong I.md l used hx]
    exact h
  · exact h.elim
theorem optI_cong {st st' : St} {d : Int} {o : Option Operand} (hx : ∀ x, o = some x → st'.ev x = st.ev x) : optI st' d o = optI st d o := by
  cases o with
  | none => rfl
  | some x => show (match st'.ev x with | .s (.c (.v (.int _ n))) => some n | _ => none) = _; rw [hx x rfl]; rfl
theorem acut_cong {st st' : St} {hp : List Obj} {x : CV} {lo hi : Option Operand} {K : AV → List Obj → Prop} (hl : ∀ x, lo = some x → st'.ev x = st.ev x) (hh : ∀ x, hi = some x → st'.ev x = st.ev x) (h : acut hp x lo hi st K) : acut hp x lo hi st' K := by
  unfold acut at h ⊢
  split at h
  · rw [optI_cong hl, optI_cong hh]
    exact h
  · rw [optI_cong hl, optI_cong hh]
    exact h
  · exact h.elim
theorem acutOwn_cong {st st' : St} {hp : List Obj} {id : Nat} {hi : Option Operand} {K : AV → List Obj → Prop} (hh : ∀ x, hi = some x → st'.ev x = st.ev x) (h : acutOwn hp id hi st K) : acutOwn hp id hi st' K := by
  unfold acutOwn at h ⊢
  split at h
  · rw [optI_cong hh]
    exact h
  · rw [optI_cong hh]
    exact h
  · exact h.elim
theorem aop_cong {op : Op} {st st' : St} (hx : ∀ x, x ∈ op.operands → st'.ev x = st.ev x) (hh : st'.hp = st.hp) {K : AV → List Obj → Prop} (h : aop E spec op st K) : aop E spec op st' K := by
  cases op with
  | move x => simp only [aop] at h ⊢; rw [hx x (by simp [Op.operands]), hh]; exact h
  | assign x => simp only [aop] at h ⊢; rw [hx x (by simp [Op.operands]), hh]; exact h
  | pick c x y => simp only [aop] at h ⊢; rw [hx c (by simp [Op.operands]), hx x (by simp [Op.operands]), hx y (by simp [Op.operands]), hh]; exact h
  | binOp op t x y yt => simp only [aop] at h ⊢; rw [hx x (by simp [Op.operands]), hx y (by simp [Op.operands]), hh]; exact h
  | unOp op t x =>
    cases op with
    | not => simp only [aop] at h ⊢; rw [hx x (by simp [Op.operands]), hh]; exact h
    | _ => exact h.elim
  | indexAddr t x i => simp only [aop] at h ⊢; rw [hx x (by simp [Op.operands]), hx i (by simp [Op.operands]), hh]; exact h
  | load t x => simp only [aop] at h ⊢; rw [hx x (by simp [Op.operands]), hh]; exact h
  | store t x y => simp only [aop] at h ⊢; rw [hx x (by simp [Op.operands]), hx y (by simp [Op.operands]), hh]; exact h
  | alloc t => simp only [aop] at h ⊢; rw [hh]; exact h
  | box t x => simp only [aop] at h ⊢; rw [hx x (by simp [Op.operands]), hh]; exact h
  | fieldAddr t x f => simp only [aop] at h ⊢; rw [hx x (by simp [Op.operands]), hh]; exact h
  | field t x f => simp only [aop] at h ⊢; rw [hx x (by simp [Op.operands]), hh]; exact h
  | nilCheck x => simp only [aop] at h ⊢; rw [hx x (by simp [Op.operands]), hh]; exact h
  | build t ps =>
    simp only [aop] at h ⊢
    rw [hh]
    split at h
    · exact abuild_cong hh _ _ (fun p hp => hx p.2 (by simp only [Op.operands, List.mem_toArray]; exact List.mem_map_of_mem hp)) h
    · exact h.elim
  | buildSlice t n ps =>
    simp only [aop] at h ⊢
    rw [hh]
    split at h
    · split at h
      · exact anparts_cong _ (fun p hp => hx p.2 (by simp only [Op.operands, List.mem_toArray]; exact List.mem_map_of_mem hp)) h
      · exact h.elim
    · split at h
      · exact aparts_cong _ _ _ (fun p hp => hx p.2 (by simp only [Op.operands, List.mem_toArray]; exact List.mem_map_of_mem hp)) h
      · exact h.elim
  | makeSlice t l c => simp only [aop] at h ⊢; rw [hx l (by simp [Op.operands]), hx c (by simp [Op.operands]), hh]; exact h
  | slice t x lo hi mx =>
    cases mx with
    | some m => exact h.elim
    | none =>
      have hl : ∀ y, lo = some y → st'.ev y = st.ev y := fun y e => hx y (by simp [Op.operands, e])
      have hi' : ∀ y, hi = some y → st'.ev y = st.ev y := fun y e => hx y (by simp [Op.operands, e])
      simp only [aop] at h ⊢
      rw [hx x (by simp [Op.operands]), hh]
      split at h
      · exact acut_cong hl hi' h
      · split at h
        · rename_i id ho
          split at h
          · rename_i hz
            rw [if_pos hz]
            exact acutOwn_cong hi' h
          · exact h.elim
        · rename_i hne
          split at h
          · rename_i hs
            split at h
            · rename_i hr
              have := acut_cong hl hi' h
              rw [if_pos hr]
              exact this
            · exact h.elim
          · exact h.elim
      · exact h.elim
  | convert s d x => simp only [aop] at h ⊢; rw [hx x (by simp [Op.operands]), hh]; exact h
  | makeInterface t x => simp only [aop] at h ⊢; rw [hx x (by simp [Op.operands]), hh]; exact h
  | index t x i => simp only [aop] at h ⊢; rw [hx x (by simp [Op.operands]), hx i (by simp [Op.operands]), hh]; exact h
  | extract x i => simp only [aop] at h ⊢; rw [hx x (by simp [Op.operands]), hh]; exact h
  | call c =>
    have ha : ∀ x, x ∈ c.args.toList → st'.ev x = st.ev x := fun x hm => hx x (by simp only [Op.operands, Call.operands, Array.mem_append]; exact .inr (by simpa using hm))
    simp only [aop] at h ⊢
    split at h
    · split at h
      · rename_i h1 h2
        rw [ha _ (by rw [h1]; simp), hh]
        exact h
      · exact h.elim
    · split at h
      · rename_i h1 h2
        rw [ha _ (by rw [h1]; simp), ha _ (by rw [h1]; simp), hh]
        exact h
      · exact h.elim
    · rename_i f hf
      rw [hx f (by simp [Op.operands, Call.operands, hf])]
      split at h
      · split at h
        · rename_i hc
          rw [if_pos hc]
          split at h
          · rename_i I hI
            exact icall_cong hh ha h
          · rename_i hI
            unfold acall at h ⊢
            rw [hh]
            split at h
            · exact acargs_cong _ _ ha h
            · exact h.elim
        · exact h.elim
      · unfold acall at h ⊢
        rw [hh]
        split at h
        · exact acargs_cong _ _ ha h
        · exact h.elim
      · exact h.elim
    · exact h.elim
  | makeFunc fn first cap =>
    cases fn with
    | func f =>
      simp only [aop] at h ⊢
      split at h
      · rename_i x h1 h2
        rw [hx x (by
          have e : x ∈ cap.toList := by rw [h2]; simp
          simp only [Op.operands, Array.mem_append]
          exact .inr (by simpa using e)), hh]
        exact h
      · exact h.elim
    | _ => exact h.elim
  | _ => exact h.elim
/-! ### One outcome -/
def Pt {α β : Type} (F : (α → β → Prop) → Prop) : Prop := ∀ K, F K → ∃ v b, K v b ∧ ∀ K', K' v b → F K'
def Pt1 {α : Type} (F : (α → Prop) → Prop) : Prop := ∀ K, F K → ∃ v, K v ∧ ∀ K', K' v → F K'
theorem Pt.pure {α β : Type} (v : α) (b : β) : Pt (fun K => K v b) := fun K h => ⟨v, b, h, fun _ h => h⟩
theorem Pt.no {α β : Type} : Pt (fun _ : α → β → Prop => False) := fun _ h => h.elim
theorem Pt1.no {α : Type} : Pt1 (fun _ : α → Prop => False) := fun _ h => h.elim
theorem Pt.and {α β : Type} {p : Prop} {F : (α → β → Prop) → Prop} (h : Pt F) : Pt (fun K => p ∧ F K) := fun K hk => let ⟨v, b, h1, h2⟩ := h K hk.2; ⟨v, b, h1, fun K' hk' => ⟨hk.1, h2 K' hk'⟩⟩
theorem Pt1.and {α : Type} {p : Prop} {F : (α → Prop) → Prop} (h : Pt1 F) : Pt1 (fun K => p ∧ F K) := fun K hk => let ⟨v, h1, h2⟩ := h K hk.2; ⟨v, h1, fun K' hk' => ⟨hk.1, h2 K' hk'⟩⟩
theorem Pt1.pure {α : Type} (v : α) : Pt1 (fun K => K v) := fun K h => ⟨v, h, fun _ h => h⟩
theorem Pt.ite {α β : Type} {p : Prop} [Decidable p] {F G : (α → β → Prop) → Prop} (h : p → Pt F) (g : ¬p → Pt G) : Pt (fun K => if p then F K else G K) := by
  by_cases hp : p
  · simp only [if_pos hp]; exact h hp
  · simp only [if_neg hp]; exact g hp
theorem Pt1.ite {α : Type} {p : Prop} [Decidable p] {F G : (α → Prop) → Prop} (h : p → Pt1 F) (g : ¬p → Pt1 G) : Pt1 (fun K => if p then F K else G K) := by
  by_cases hp : p
  · simp only [if_pos hp]; exact h hp
  · simp only [if_neg hp]; exact g hp
/-- Behind something with one outcome, something with one outcome. -/
theorem Pt.bind {α β γ δ : Type} {F : (γ → δ → Prop) → Prop} {G : γ → δ → (α → β → Prop) → Prop} (h : Pt F) (g : ∀ v b, Pt (G v b)) : Pt (fun K => F fun v b => G v b K) := fun K hk => by
  obtain ⟨v, b, h1, h2⟩ := h _ hk
  obtain ⟨u, c, g1, g2⟩ := g v b K h1
  exact ⟨u, c, g1, fun K' hk' => h2 _ (g2 K' hk')⟩
theorem Pt1.bind {α β γ : Type} {F : (γ → Prop) → Prop} {G : γ → (α → β → Prop) → Prop} (h : Pt1 F) (g : ∀ v, Pt (G v)) : Pt (fun K => F fun v => G v K) := fun K hk => by
  obtain ⟨v, h1, h2⟩ := h _ hk
  obtain ⟨u, c, g1, g2⟩ := g v K h1
  exact ⟨u, c, g1, fun K' hk' => h2 _ (g2 K' hk')⟩
theorem Pt1.bind1 {α γ : Type} {F : (γ → Prop) → Prop} {G : γ → (α → Prop) → Prop} (h : Pt1 F) (g : ∀ v, Pt1 (G v)) : Pt1 (fun K => F fun v => G v K) := fun K hk => by
  obtain ⟨v, h1, h2⟩ := h _ hk
  obtain ⟨u, g1, g2⟩ := g v K h1
  exact ⟨u, g1, fun K' hk' => h2 _ (g2 K' hk')⟩
theorem binV_pt {op : BinOp} {ty : TypeId} {c : Bool} {x y : Value} : Pt1 (binV E op ty c x y) := by
  unfold binV
  split
  · cases op <;> first | exact Pt1.no | exact Pt1.and (Pt1.pure _) | exact Pt1.ite (fun _ => Pt1.pure _) (fun _ => Pt1.no) | exact Pt1.ite (fun _ => Pt1.and (Pt1.pure _)) (fun _ => Pt1.no)
  · cases op <;> first | exact Pt1.no | exact Pt1.pure _
  · refine Pt1.ite (fun _ => ?_) (fun _ => Pt1.no)
    cases op <;> first | exact Pt1.no | exact Pt1.pure _
  · refine Pt1.ite (fun _ => ?_) (fun _ => Pt1.no)
    cases op <;> first | exact Pt1.no | exact Pt1.pure _
  · refine Pt1.ite (fun _ => ?_) (fun _ => Pt1.no)
    cases op <;> first | exact Pt1.no | exact Pt1.pure _
  · refine Pt1.ite (fun _ => ?_) (fun _ => Pt1.no)
    cases op <;> first | exact Pt1.no | exact Pt1.pure _
  · exact Pt1.no
theorem binE_pt {op : BinOp} {ty : TypeId} {c : Bool} {hp : List Obj} {x y : CV} : Pt1 (binE E op ty c hp x y) := by
  unfold binE
  split
  · refine Pt1.and (Pt1.and (Pt1.and ?_))
    cases op <;> first | exact Pt1.no | exact Pt1.pure _
  · split
    · refine Pt1.ite (fun _ => ?_) (fun _ => Pt1.no)
      split
      · cases op <;> first | exact Pt1.no | exact Pt1.pure _
      · exact Pt1.no
    · split
      · cases op <;> first | exact Pt1.no | exact Pt1.pure _
      · exact Pt1.no
    · exact Pt1.no
theorem mkSV_pt {b : Bool} {cs : List CV} : Pt1 (mkSV b cs) := by
  unfold mkSV
  refine Pt1.ite (fun _ => Pt1.pure _) (fun _ => ?_)
  split
  · exact Pt1.pure _
  · exact Pt1.no
theorem alen_pt {t : TypeId} {hp : List Obj} {x : AV} : Pt (alen E t hp x) := by
  unfold alen
  repeat' split
  all_goals first | exact Pt.no | exact Pt.pure _ _
theorem aappend_pt {t : TypeId} {hp : List Obj} {x y : AV} : Pt (aappend E t hp x y) := by
  unfold aappend
  split
  · split
    · split
      · split
        · split
          · refine Pt.ite (fun _ => ?_) (fun _ => Pt.no)
            split
            · exact Pt.and (Pt.pure _ _)
            · exact Pt.no
          · exact Pt.no
        · exact Pt.and (Pt.pure _ _)
        · exact Pt.no
      · exact Pt.no
    · exact Pt.no
  · exact Pt.no
theorem absorb_pt {hp : List Obj} {id : Nat} : Pt1 (absorb hp id) := by
  unfold absorb
  split
  · exact Pt1.pure _
  · split
    · refine Pt1.ite (fun _ => ?_) (fun _ => Pt1.no)
      split
      · exact Pt1.and (Pt1.and (Pt1.pure _))
      · exact Pt1.no
    · exact Pt1.no
  · exact Pt1.and (Pt1.pure _)
  · exact Pt1.no
theorem focus_pt {hp : List Obj} {id i : Nat} {F : Option IntKind → Int → Nat → List Obj → (AV → List Obj → Prop) → Prop} (hF : ∀ a b c d, Pt (F a b c d)) : Pt (fun K => focus hp id i fun a b c d => F a b c d K) := by
  unfold focus
  refine Pt1.bind absorb_pt fun hp => ?_
  split
  · exact Pt.and (hF _ _ _ _)
  · exact Pt.no
theorem anappend_pt {t : TypeId} {hp : List Obj} {x y : CV} : Pt (anappend E t hp x y) := by
  unfold anappend
  split
  · refine Pt1.bind absorb_pt fun hp => ?_
    split
    · split
      · refine Pt.ite (fun _ => Pt.and ?_) (fun _ => Pt.no)
        split
        · exact Pt.and (Pt.pure _ _)
        · exact Pt.no
      · exact Pt.no
    · exact Pt.no
  · exact Pt.no
theorem anparts_pt {pk : Option IntKind} {st : St} : ∀ (l : List (Nat × Operand)), Pt1 (fun K => anparts pk st l K)
  | [] => Pt1.pure _
  | (i, x) :: l => by
    simp only [anparts]
    split
    · exact Pt1.ite (fun _ => Pt1.bind1 (anparts_pt l) fun _ => Pt1.pure _) (fun _ => Pt1.no)
    · exact Pt1.bind1 (anparts_pt l) fun _ => Pt1.pure _
    · exact Pt1.no
theorem after_pt {hp0 : List Obj} : ∀ (io : List Nat) (aft : List TV) (hp : List Obj), Pt1 (after hp0 hp io aft)
  | [], [], hp => Pt1.pure _
  | [], x :: l, hp => by
    cases x with
    | c t => cases t <;> exact Pt1.no
    | agg ts => exact Pt1.no
    | box e ts => exact Pt1.no
  | _ :: _, [], hp => Pt1.no
  | id :: ids, .box e ts :: l, hp => by
    have : after hp0 hp (id :: ids) (.box e ts :: l) = after hp0 (hset ((T0.insts hp ts).2 ++ [.gone]) id (.box e (T0.insts hp ts).1)) ids l := by funext K; rfl
    rw [this]
    exact after_pt _ _ _
  | id :: ids, .agg ts :: l, hp => Pt1.no
  | id :: ids, .c t :: l, hp => by
    cases t with
    | own e r xs =>
      show Pt1 (fun K => match hget hp0 id with
        | .row e0 r0 xs0 => if e0 = e then match castRow r0 r xs0 with
          | some _ => after hp0 (hset (hp ++ [.gone]) id (.row e r xs)) ids l K
          | none => False
          else False
        | _ => False)
      split
      · refine Pt1.ite (fun _ => ?_) (fun _ => Pt1.no)
        split
        · exact after_pt _ _ _
        · exact Pt1.no
      · exact Pt1.no
    | _ => exact Pt1.no
theorem Pt.of1 {α β : Type} {F : (β → Prop) → Prop} (v : α) (h : Pt1 F) : Pt (fun K : α → β → Prop => F (K v)) := fun K hk => by
  obtain ⟨b, h1, h2⟩ := h _ hk
  exact ⟨v, b, h1, fun K' hk' => h2 _ hk'⟩
theorem iresK_pt {hp0 hp : List Obj} {io : List Nat} {aft res : List TV} : Pt (fun K => iresK hp0 hp io aft K res) := by
  unfold iresK
  generalize TV.insts hp res = q
  obtain ⟨xs, h⟩ := q
  match xs with
  | [] => exact Pt.of1 _ (after_pt _ _ _)
  | [x] => exact Pt.of1 _ (after_pt _ _ _)
  | _ :: _ :: _ => exact Pt.of1 _ (after_pt _ _ _)
theorem icall_pt {I : ISpec} {st : St} {l : List Operand} : Pt (icall I st l) := by
  unfold icall
  split
  · exact Pt.and (Pt.and iresK_pt)
  · exact Pt.no
theorem aload_pt {t : TypeId} {hp : List Obj} {p : AV} : Pt (aload E t hp p) := by
  have h0 : Pt (aload0 E t hp p) := by
    unfold aload0
    split
    · split
      · exact Pt.ite (fun _ => Pt1.bind mkSV_pt fun v => Pt.pure _ _) (fun _ => Pt.no)
      · split
        · exact Pt.ite (fun _ => Pt1.bind mkSV_pt fun v => Pt.pure _ _) (fun _ => Pt.no)
        · exact Pt.no
      · split
        · exact Pt.ite (fun _ => Pt1.bind mkSV_pt fun v => Pt.pure _ _) (fun _ => Pt.no)
        · exact Pt.no
      · exact Pt.no
    · exact Pt.no
  unfold aload
  split
  · split
    · split
      · refine Pt.ite (fun _ => focus_pt fun pk x m hp => ?_) (fun _ => Pt.no)
        cases pk
        · exact Pt.no
        · exact Pt.pure _ _
      · exact Pt.ite (fun _ => focus_pt fun pk x m hp => Pt.pure _ _) (fun _ => Pt.no)
      · exact Pt.no
    · exact h0
  · exact h0
theorem astore_pt {t : TypeId} {hp : List Obj} {p x : AV} : Pt1 (astore E t hp p x) := by
  have h0 : Pt1 (astore0 E t hp p x) := by
    unfold astore0
    split
    · refine Pt1.ite (fun _ => ?_) (fun _ => Pt1.no)
      split
      · split
        · exact Pt1.ite (fun _ => Pt1.pure _) (fun _ => Pt1.no)
        · exact Pt1.ite (fun _ => Pt1.pure _) (fun _ => Pt1.no)
        · exact Pt1.no
      · exact Pt1.no
    · exact Pt1.no
  unfold astore
  split
  · split
    · split
      · split
        · exact Pt1.ite (fun _ => Pt1.pure _) (fun _ => Pt1.no)
        · exact Pt1.no
      · split
        · exact Pt1.ite (fun _ => Pt1.and (Pt1.pure _)) (fun _ => Pt1.no)
        · exact Pt1.no
      · exact Pt1.no
    · exact Pt1.no
  · exact h0
theorem aparts_pt {st : St} : ∀ (l : List (Nat × Operand)) (j : Nat) (hp : List Obj), Pt (fun K => aparts st j hp l K)
  | [], j, hp => Pt.pure _ _
  | (i, x) :: l, j, hp => by
    simp only [aparts]
    refine Pt.ite (fun _ => ?_) (fun _ => Pt.no)
    split
    · exact Pt.bind (aparts_pt l _ _) fun _ _ => Pt.pure _ _
    · exact Pt.no
theorem abuild_pt {pl : List (Nat × Nat)} {st : St} : ∀ (l : List (Nat × Operand)) (cs : List CV), Pt1 (fun K => abuild pl st l cs K)
  | [], cs => Pt1.pure _
  | (f, x) :: l, cs => by
    simp only [abuild]
    split
    · exact Pt1.ite (fun _ => abuild_pt l _) (fun _ => Pt1.no)
    · exact Pt1.no
theorem acargs_pt {st : St} : ∀ (l : List Operand) (hp : List Obj), Pt (fun K => acargs st hp l K)
  | [], hp => Pt.pure _ _
  | x :: l, hp => by
    simp only [acargs]
    split
    · split
      · exact Pt.bind (acargs_pt l _) fun _ _ => Pt.pure _ _
      · exact Pt.no
    · split
      · exact Pt.bind (acargs_pt l _) fun _ _ => Pt.pure _ _
      · exact Pt.no
    · exact Pt.no
theorem resK_pt {hp : List Obj} {res : List TV} : Pt (fun K => resK hp K res) := by
  unfold resK
  generalize TV.insts hp res = q
  obtain ⟨xs, h⟩ := q
  match xs with
  | [] => exact Pt.pure _ _
  | [x] => exact Pt.pure _ _
  | _ :: _ :: _ => exact Pt.pure _ _
theorem acut_pt {st : St} {hp : List Obj} {x : CV} {lo hi : Option Operand} : Pt (acut hp x lo hi st) := by
  unfold acut
  split
  · split
    · exact Pt.and (Pt.pure _ _)
    · exact Pt.no
  · split
    · exact Pt.and (Pt.pure _ _)
    · exact Pt.no
  · exact Pt.no
theorem acutOwn_pt {st : St} {hp : List Obj} {id : Nat} {hi : Option Operand} : Pt (acutOwn hp id hi st) := by
  unfold acutOwn
  split
  · split
    · exact Pt.and (Pt.pure _ _)
    · exact Pt.no
  · split
    · exact Pt.and (Pt.and (Pt.pure _ _))
    · exact Pt.no
  · exact Pt.no
set_option maxHeartbeats 1000000 in
theorem aop_pt {op : Op} {st : St} : (∃ c a b, op = .pick c a b) ∨ Pt (fun K => aop E spec op st K) := by
  cases op with
  | pick c a b => exact .inl ⟨c, a, b, rfl⟩
  | move x => exact .inr (Pt.pure _ _)
  | assign x => exact .inr (Pt.pure _ _)
  | binOp op t x y yt =>
    refine .inr ?_
    simp only [aop]
    split
    · split
      · exact Pt1.bind binV_pt fun _ => Pt.pure _ _
      · exact Pt1.bind binE_pt fun _ => Pt.pure _ _
    · exact Pt.no
  | unOp op t x =>
    cases op with
    | not =>
      refine .inr ?_
      simp only [aop]
      split
      · exact Pt.pure _ _
      · exact Pt.no
    | _ => exact .inr Pt.no
  | indexAddr t x i =>
    refine .inr ?_
    simp only [aop]
    split
    · exact Pt.ite (fun _ => Pt.and (Pt.pure _ _)) (fun _ => Pt.no)
    · split
      · exact Pt.ite (fun _ => Pt.and (Pt.pure _ _)) (fun _ => Pt.no)
      · exact Pt.ite (fun _ => Pt.and (Pt.pure _ _)) (fun _ => Pt.no)
      · exact Pt.ite (fun _ => Pt.and (Pt.pure _ _)) (fun _ => Pt.no)
      · exact Pt.no
    · exact Pt.ite (fun _ => Pt.and (Pt.pure _ _)) (fun _ => Pt.no)
    · exact Pt.no
  | load t x => exact .inr aload_pt
  | store t x y =>
    refine .inr fun K hk => ?_
    simp only [aop] at hk ⊢
    obtain ⟨v, h1, h2⟩ := astore_pt _ hk
    exact ⟨_, _, h1, fun K' hk' => h2 _ hk'⟩
  | alloc t =>
    refine .inr ?_
    simp only [aop]
    split
    · exact Pt.pure _ _
    · exact Pt.no
  | box t x =>
    refine .inr ?_
    simp only [aop]
    split
    · exact Pt.ite (fun _ => Pt.pure _ _) (fun _ => Pt.no)
    · exact Pt.no
  | fieldAddr t x f =>
    refine .inr ?_
    simp only [aop]
    split
    · split
      · exact Pt.pure _ _
      · exact Pt.no
    · exact Pt.pure _ _
    · split
      · exact Pt.pure _ _
      · exact Pt.pure _ _
      · exact Pt.no
    · exact Pt.no
  | field t x f =>
    refine .inr ?_
    simp only [aop]
    split
    · exact Pt.ite (fun _ => Pt1.bind mkSV_pt fun _ => Pt.pure _ _) (fun _ => Pt.no)
    · exact Pt.no
  | nilCheck x =>
    refine .inr ?_
    simp only [aop]
    split
    · split
      · exact Pt.pure _ _
      · exact Pt.no
    · split
      · exact Pt.pure _ _
      · exact Pt.pure _ _
      · exact Pt.no
    · exact Pt.pure _ _
    · exact Pt.no
  | build t ps =>
    refine .inr ?_
    simp only [aop]
    split
    · exact Pt1.bind (abuild_pt _ _) fun _ => Pt.pure _ _
    · exact Pt.no
  | buildSlice t n ps =>
    refine .inr ?_
    simp only [aop]
    split
    · split
      · exact Pt1.bind (anparts_pt _) fun _ => Pt.ite (fun _ => Pt.pure _ _) (fun _ => Pt.no)
      · exact Pt.no
    · split
      · refine Pt.bind (aparts_pt _ _ _) fun v b => ?_
        split
        · exact Pt.ite (fun _ => Pt.pure _ _) (fun _ => Pt.no)
        · exact Pt.no
      · exact Pt.no
  | makeSlice t l c =>
    refine .inr ?_
    simp only [aop]
    split
    · refine Pt.and ?_
      split
      · exact Pt.pure _ _
      · split
        · split
          · exact Pt.pure _ _
          · exact Pt.no
        · exact Pt.no
    · exact Pt.no
  | slice t x lo hi mx =>
    cases mx with
    | some m => exact .inr Pt.no
    | none =>
      refine .inr ?_
      simp only [aop]
      split
      · exact acut_pt
      · split
        · exact Pt.ite (fun _ => acutOwn_pt) (fun _ => Pt.no)
        · split
          · exact Pt.ite (fun _ => acut_pt) (fun _ => Pt.no)
          · exact Pt.no
      · exact Pt.no
  | convert s d x =>
    refine .inr ?_
    simp only [aop]
    split
    · exact Pt.pure _ _
    · exact Pt.pure _ _
    · exact Pt.pure _ _
    · split
      · exact Pt.pure _ _
      · exact Pt.no
    · split
      · exact Pt.pure _ _
      · exact Pt.no
    · exact Pt.no
  | makeInterface t x =>
    refine .inr ?_
    simp only [aop]
    split
    · exact Pt.ite (fun _ => Pt.pure _ _) (fun _ => Pt.no)
    · exact Pt.no
  | index t x i =>
    refine .inr ?_
    simp only [aop]
    split
    · exact Pt.ite (fun _ => Pt.and (Pt.pure _ _)) (fun _ => Pt.no)
    · exact Pt.no
  | extract x i =>
    refine .inr ?_
    simp only [aop]
    split
    · split
      · exact Pt.pure _ _
      · exact Pt.no
    · exact Pt.no
  | call c =>
    refine .inr ?_
    simp only [aop]
    split
    · split
      · exact alen_pt
      · exact Pt.no
    · split
      · refine Pt.ite (fun _ => ?_) (fun _ => Pt.no)
        split
        · exact anappend_pt
        · exact aappend_pt
      · exact Pt.no
    · split
      · refine Pt.ite (fun _ => ?_) (fun _ => Pt.no)
        split
        · exact icall_pt
        · unfold acall
          split
          · exact Pt.bind (acargs_pt _ _) fun _ _ => Pt.and resK_pt
          · exact Pt.no
      · unfold acall
        split
        · exact Pt.bind (acargs_pt _ _) fun _ _ => Pt.and resK_pt
        · exact Pt.no
      · exact Pt.no
    · exact Pt.no
  | makeFunc fn first cap =>
    cases fn with
    | func f =>
      refine .inr ?_
      simp only [aop]
      split
      · split
        · split
          · split
            · split
              · exact Pt.pure _ _
              · exact Pt.no
            · exact Pt.no
          · exact Pt.no
        · exact Pt.no
      · exact Pt.no
    | _ => exact .inr Pt.no
  | _ => exact .inr Pt.no
/-- With 'pick': the outcome hangs on the truth that it looks at. -/
theorem aop_one {op : Op} {st : St} {K : AV → List Obj → Prop} (h : aop E spec op st K) : ∃ v hp, K v hp ∧ ∀ K', K' v hp → aop E spec op st K' := by
  rcases aop_pt (E := E) (spec := spec) (op := op) (st := st) with ⟨c, a, b, rfl⟩ | hp
  · simp only [aop] at h ⊢
    split at h
    · rename_i t ht
      cases t with
      | true => exact ⟨_, _, h.1 rfl, fun K' hk => ⟨fun _ => hk, fun h => Bool.noConfusion h⟩⟩
      | false => exact ⟨_, _, h.2 rfl, fun K' hk => ⟨fun h => Bool.noConfusion h, fun _ => hk⟩⟩
    · exact h.elim
  · exact hp K h
end
end Go.AX
