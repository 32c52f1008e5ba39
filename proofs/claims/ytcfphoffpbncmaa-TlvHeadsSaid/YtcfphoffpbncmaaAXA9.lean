/- The abstract executor, part 9: what is claimed of a call; trees in memory; trees made objects. -/
import Derived.Test.YtcfphoffpbncmaaAXA7N
set_option linter.unusedVariables false
set_option linter.unusedSimpArgs false
namespace Go.AX
open Go.RowKit

/-- Memory that may be read: ok: and kept; bo: for the call alone. -/
structure Acc where
  ok : Nat → Prop
  bo : Nat → Prop
abbrev Acc.of (ok : Nat → Prop) : Acc := ⟨ok, ok⟩
def AStays (w w' : World) (A A' : Acc) : Prop := Stays w w' A.ok A'.ok ∧ Stays w w' A.bo A'.bo
abbrev accOf (w : World) (β : Bs) (hp : List Obj) : Acc := ⟨imm w β hp, nomut w β hp⟩
theorem Evo.astays {w : World} {β : Bs} {hp : List Obj} {w' : World} {β' : Bs} {hp' : List Obj} (h : Evo w β hp w' β' hp') : AStays w w' (accOf w β hp) (accOf w' β' hp') := ⟨h.stays, h.stays2⟩
/-- Trees in memory; os: the blocks of the objects that may be written to. -/
def T0.con (w : World) (A : Acc) : T0 → Value → List Fp → Prop
  | .v x, u, os => (u = x ∧ u.oneCell' = true) ∧ os = []
  | .sl _ r xs, u, os => slRep w A.ok r xs u ∧ os = []
  | .own e r xs, u, os => ∃ o, os = [fp1 o] ∧ u = ownVal o xs.length ∧ rowObj w A.ok o e r xs
  | .rptr r xs i off, u, os => ((0 ≤ i ∧ i < xs.length) ∧ ∃ b o, u = .pointer (some ⟨b, o + i.toNat * r.size + off, none⟩) ∧ rowAt w A.bo A.ok r b o xs) ∧ os = []
  | .clo f r x, u, os => (∃ b o, u = .func (.func f) #[] #[.pointer (some ⟨b, o, none⟩)] ∧ rowAt w A.bo A.ok r b o [x]) ∧ os = []
  | .bs r xs, u, os => bsRep w A.bo A.ok r xs u ∧ os = []
  | .er t c, u, os => u = errV t c ∧ os = []
  | .nest e pk eb r xs, u, os => ∃ F : Fp, os = [F] ∧ (∀ j, xs.length < j → F j = none) ∧ u = ownVal (F 0) xs.length ∧ nestO w A.ok F e pk eb r xs none
def T0.cons (w : World) (A : Acc) : List T0 → List Value → List Fp → Prop
  | [], [], os => os = []
  | t :: l, u :: m, os => ∃ o1 o2, os = o1 ++ o2 ∧ t.con w A u o1 ∧ T0.cons w A l m o2
  | _, _, _ => False
def TV.con (w : World) (A : Acc) : TV → Value → List Fp → Prop
  | .c t, u, os => t.con w A u os
  | .agg ts, u, os => ∃ l : List Value, u = .agg l.toArray ∧ T0.cons w A ts l os
  | .box e ts, u, os => ∃ (l : List Value) (g c : Nat) (o1 : List Fp), u = .pointer (some ⟨g, 0, none⟩) ∧ w.heap[g]? = some (.cells l.toArray e (0, 0)) ∧ T0.cons w A ts l o1 ∧ (∀ v ∈ l, v.oneCell' = true) ∧ os = o1 ++ [fp1 (some (g, c))]
def TV.cons (w : World) (A : Acc) : List TV → List Value → List Fp → Prop
  | [], [], os => os = []
  | t :: l, u :: m, os => ∃ o1 o2, os = o1 ++ o2 ∧ t.con w A u o1 ∧ TV.cons w A l m o2
  | _, _, _ => False
def InOs (os : List Fp) (g : Nat) : Prop := ∃ F, F ∈ os ∧ ∃ j c, F j = some (g, c)
theorem InOs.left {o1 o2 : List Fp} {g : Nat} (h : InOs o1 g) : InOs (o1 ++ o2) g := let ⟨F, h1, h2⟩ := h; ⟨F, List.mem_append_left _ h1, h2⟩
theorem InOs.right {o1 o2 : List Fp} {g : Nat} (h : InOs o2 g) : InOs (o1 ++ o2) g := let ⟨F, h1, h2⟩ := h; ⟨F, List.mem_append_right _ h1, h2⟩
theorem InOs.split {o1 o2 : List Fp} {g : Nat} (h : InOs (o1 ++ o2) g) : InOs o1 g ∨ InOs o2 g := by
  obtain ⟨F, h1, h2⟩ := h
  rcases List.mem_append.1 h1 with h1 | h1
  · exact .inl ⟨F, h1, h2⟩
  · exact .inr ⟨F, h1, h2⟩
theorem InOs.nil {g : Nat} (h : InOs [] g) : False := by obtain ⟨F, h1, _⟩ := h; cases h1
theorem InOs.one {F : Fp} {j g c : Nat} (h : F j = some (g, c)) : InOs [F] g := ⟨F, by simp, j, c, h⟩
theorem InOs.of_get {os : List Fp} {k : Nat} {F : Fp} {j g c : Nat} (h : os[k]? = some F) (hF : F j = some (g, c)) : InOs os g := ⟨F, List.mem_of_getElem? h, j, c, hF⟩
def Apart (os : List Fp) : Prop := ∀ (i i' : Nat) (F F' : Fp) (j j' g c c' : Nat), os[i]? = some F → os[i']? = some F' → F j = some (g, c) → F' j' = some (g, c') → i = i' ∧ j = j'
theorem Apart.nil : Apart [] := fun i i' F F' j j' g c c' h => by simp at h
def retVal : List Value → Value
  | [u] => u
  | l => .tuple l.toArray
/-- What a call hands back: trees in new memory, or that lead to memory that it was shown. -/
def okRes (w : World) (ok : Nat → Prop) (w' : World) (os : List Fp) (b : Nat) : Prop := (ok b ∨ w.heap.size ≤ b) ∧ b < w'.heap.size ∧ ¬ InOs os b
def ResRep (w : World) (ok : Nat → Prop) (w' : World) (res : List TV) (us : List Value) : Prop :=
  ∃ os, TV.cons w' (.of (okRes w ok w' os)) res us os ∧ Apart os ∧ ∀ g, InOs os g → w.heap.size ≤ g
def Enters (P : Program) (f : FuncId) : Prop := ∀ args w, (callFunc f args).run P w = .ok (.enter f args) w
def CallP (P : Program) (f : FuncId) (args : Array Value) (w : World) (T : Value → World → Prop) : Prop :=
  (Enters P f ∧ Calls P f args w fun e w' => ∃ v, e = .returned v ∧ T v w') ∨ ∃ v w', (callFunc f args).run P w = .ok (.value v) w' ∧ T v w'
/-- The function does what the spec says. ok: the memory that it may read. -/
def SpecOk (P : Program) (f : FuncId) (S : PSpec) : Prop :=
  ∀ (args : List TV) (vs : List Value) (w : World) (A : Acc), (∀ b, A.ok b → A.bo b) → (∀ b, A.bo b → b < w.heap.size) → TV.cons w A args vs [] → (S args).1 →
    CallP P f vs.toArray w fun v w' => ∃ us, v = retVal us ∧ ResRep w A.ok w' (S args).2 us ∧ Below w.heap.size w w'
/-- The values of the arguments that may be written to. -/
def ioVals : List Md → List Value → List Value
  | d :: ds, v :: vs => match d.io with
    | true => v :: ioVals ds vs
    | false => ioVals ds vs
  | _, _ => []
/-- What stands in the blocks that are nobody's of os stays. -/
structure BelowX (M : Nat → Prop) (w w' : World) : Prop where
  os : w'.os = w.os
  tape : w'.tape = w.tape
  output : w'.output = w.output
  size : w.heap.size ≤ w'.heap.size
  block : ∀ k, k < w.heap.size → ¬ M k → w'.heap[k]? = w.heap[k]?
/-- The same of a spec of a function that writes to what it is handed. -/
def ISpecOk (P : Program) (f : FuncId) (I : ISpec) : Prop :=
  ∀ (args : List TV) (vs : List Value) (w : World) (A : Acc) (os : List Fp), (∀ b, A.ok b → A.bo b) → (∀ b, A.bo b → b < w.heap.size ∧ ¬ InOs os b) → (∀ g, InOs os g → g < w.heap.size) → Apart os → TV.cons w A args vs os → (I.S args).1 → args.length = I.md.length →
    CallP P f vs.toArray w fun v w' => ∃ us os', v = retVal us ∧ TV.cons w' (.of (okRes w (fun b => A.ok b ∨ InOs os b) w' os')) ((I.S args).2.1 ++ (I.S args).2.2) (us ++ ioVals I.md vs) os' ∧ us.length = (I.S args).2.1.length ∧ Apart os' ∧ (∀ g, InOs os' g → w.heap.size ≤ g ∨ InOs os g) ∧ BelowX (InOs os) w w'
structure SpsOk (P : Program) (S : Sp) : Prop where
  p : ∀ f s, S.p f = some s → SpecOk P f s
  i : ∀ f s, S.i f = some s → ISpecOk P f s

theorem nestO.same {w w' : World} {ok ok' : Nat → Prop} (h : Stays w w' ok ok') {F : Fp} {e : TypeId} {pk : Option IntKind} {eb : TypeId} {r : Row} {xs : List (Int × List r.den)} (hb : ∀ j g c, F j = some (g, c) → w'.heap[g]? = w.heap[g]?) (hr : nestO w ok F e pk eb r xs none) : nestO w' ok' F e pk eb r xs none :=
  nestO.mono h (fun _ _ _ => rfl) (fun j g c _ _ he => hb j g c he) (ov := none) (ov' := none) (fun q hq => by cases hq) (fun q hq => by cases hq) hr
theorem T0.con_mono {w w' : World} {A A' : Acc} (h : AStays w w' A A') : ∀ {t : T0} {u : Value} {os : List Fp}, (∀ g, InOs os g → w'.heap[g]? = w.heap[g]?) → t.con w A u os → t.con w' A' u os
  | .v x, u, os, _, hr => hr
  | .sl e r xs, u, os, _, hr => ⟨slRep.mono h.1 hr.1, hr.2⟩
  | .own e r xs, u, os, hb, hr => by
    obtain ⟨o, rfl, hu, hro⟩ := hr
    exact ⟨o, rfl, hu, hro.mono h.1 (fun g c he => hb g (InOs.one (j := 0) (by exact he)))⟩
  | .rptr r xs i off, u, os, _, hr => let ⟨⟨h0, b, o, hv, hrow⟩, ho⟩ := hr; ⟨⟨h0, b, o, hv, hrow.mono h.2 h.1⟩, ho⟩
  | .clo f r x, u, os, _, hr => let ⟨⟨b, o, hv, hrow⟩, ho⟩ := hr; ⟨⟨b, o, hv, hrow.mono h.2 h.1⟩, ho⟩
  | .bs r xs, u, os, _, hr => ⟨bsRep.mono h.2 h.1 hr.1, hr.2⟩
  | .er t c, u, os, _, hr => hr
  | .nest e pk eb r xs, u, os, hb, hr => by
    obtain ⟨F, rfl, h1, h2, h3⟩ := hr
    exact ⟨F, rfl, h1, h2, h3.same h.1 fun j g c he => hb g (InOs.one he)⟩
theorem T0.cons_mono {w w' : World} {A A' : Acc} (h : AStays w w' A A') : ∀ (l : List T0) (m : List Value) (os : List Fp), (∀ g, InOs os g → w'.heap[g]? = w.heap[g]?) → T0.cons w A l m os → T0.cons w' A' l m os
  | [], [], _, _, hr => hr
  | t :: l, u :: m, os, hb, hr => by
    obtain ⟨o1, o2, rfl, h1, h2⟩ := hr
    exact ⟨o1, o2, rfl, T0.con_mono h (fun g hm => hb g hm.left) h1, T0.cons_mono h l m o2 (fun g hm => hb g hm.right) h2⟩
  | [], _ :: _, _, _, hr => hr.elim
  | _ :: _, [], _, _, hr => hr.elim
theorem TV.con_mono {w w' : World} {A A' : Acc} (h : AStays w w' A A') : ∀ {t : TV} {u : Value} {os : List Fp}, (∀ g, InOs os g → w'.heap[g]? = w.heap[g]?) → t.con w A u os → t.con w' A' u os
  | .c t, u, os, hb, hr => T0.con_mono h hb hr
  | .agg ts, u, os, hb, ⟨l, hu, hr⟩ => ⟨l, hu, T0.cons_mono h ts l os hb hr⟩
  | .box e ts, u, os, hb, ⟨l, g, cc, o1, hu, hg, hr, h1, ho⟩ => by
    subst ho
    exact ⟨l, g, cc, o1, hu, by rw [hb g (InOs.right (InOs.one (j := 0) (by exact rfl)))]; exact hg, T0.cons_mono h ts l o1 (fun g hm => hb g hm.left) hr, h1, rfl⟩
theorem TV.cons_mono {w w' : World} {A A' : Acc} (h : AStays w w' A A') : ∀ (l : List TV) (m : List Value) (os : List Fp), (∀ g, InOs os g → w'.heap[g]? = w.heap[g]?) → TV.cons w A l m os → TV.cons w' A' l m os
  | [], [], _, _, hr => hr
  | t :: l, u :: m, os, hb, hr => by
    obtain ⟨o1, o2, rfl, h1, h2⟩ := hr
    exact ⟨o1, o2, rfl, TV.con_mono h (fun g hm => hb g hm.left) h1, TV.cons_mono h l m o2 (fun g hm => hb g hm.right) h2⟩
  | [], _ :: _, _, _, hr => hr.elim
  | _ :: _, [], _, _, hr => hr.elim
theorem fp1_some {o : Option (Nat × Nat)} {j g c : Nat} (h : fp1 o j = some (g, c)) : j = 0 ∧ o = some (g, c) := by
  cases j with
  | zero => exact ⟨rfl, h⟩
  | succ j => cases h
section
variable {P : Program} {E : Env} {w : World} {β : Bs} {st : St} {a : Act}
theorem asArg0_con {hp : List Obj} {x : CV} {t : T0} {v : Value} (h : asArg0 x = some t) (hr : x.rep w β hp v) : t.con w (accOf w β hp) v [] := by
  unfold asArg0 at h
  split at h
  · split at h
    · injection h with h
      subst h
      exact ⟨hr, rfl⟩
    · cases h
  · injection h with h
    subst h
    exact ⟨hr, rfl⟩
  · injection h with h
    subst h
    exact ⟨hr, rfl⟩
  · injection h with h
    subst h
    exact ⟨hr, rfl⟩
  · injection h with h
    subst h
    exact ⟨hr, rfl⟩
  · cases h
theorem asArgs0_con {hp : List Obj} : ∀ (l : List CV) (ts : List T0) (m : List Value), asArgs0 l = some ts → repL (CV.rep w β hp) l m → T0.cons w (accOf w β hp) ts m []
  | [], ts, [], h, _ => by injection h with h; subst h; exact rfl
  | x :: l, ts, u :: m, h, hr => by
    unfold asArgs0 at h
    split at h
    · rename_i a b ha hb
      injection h with h
      subst h
      exact ⟨[], [], rfl, asArg0_con ha hr.1, asArgs0_con l b m hb hr.2⟩
    · cases h
  | [], _, _ :: _, _, hr => hr.elim
  | _ :: _, _, [], _, hr => hr.elim
/-- For a call that keeps what it is lent: no memory is lent for the call alone. -/
def T0.keeps : T0 → Prop
  | .bs .. => False
  | .rptr .. => True
  | .clo .. => True
  | _ => True
theorem acargs_run (hS : SRep w β st a) : ∀ (l : List Operand) (hp : List Obj), HRep w β hp → Evo w β st.hp w β hp → ∀ {K : List TV → List Obj → Prop}, acargs st hp l K →
    ∃ ts hp', K ts hp' ∧ HRep w β hp' ∧ Evo w β hp w β hp' ∧ TV.cons w (accOf w β hp') ts (l.map a.eval) []
  | [], hp, hH, hE, K, h => ⟨[], hp, h, hH, Evo.refl _ _ _, rfl⟩
  | x :: l, hp, hH, hE, K, h => by
    unfold acargs at h
    have hr := hE.av (ev_rep hS x)
    split at h
    · rename_i y hev
      rw [hev] at hr
      obtain ⟨f1, f2, f3⟩ := froz_rep hH hr
      dsimp only at h
      split at h
      · rename_i t ht
        obtain ⟨ts, hp', k1, k2, k3, k4⟩ := acargs_run hS l _ f2 (hE.trans f1) (K := fun m hp => K (.c t :: m) hp) h
        exact ⟨_, hp', k1, k2, f1.trans k3, [], [], rfl, T0.con_mono k3.astays (fun _ h => h.nil.elim) (asArg0_con ht f3), k4⟩
      · exact h.elim
    · rename_i ys hev
      rw [hev] at hr
      obtain ⟨m, hv, hm⟩ := hr
      obtain ⟨f1, f2, f3⟩ := frozs_rep hp ys m hH hm
      dsimp only at h
      split at h
      · rename_i t ht
        obtain ⟨ts, hp', k1, k2, k3, k4⟩ := acargs_run hS l _ f2 (hE.trans f1) (K := fun m hp => K (.agg t :: m) hp) h
        exact ⟨_, hp', k1, k2, f1.trans k3, [], [], rfl, ⟨m, hv, T0.cons_mono k3.astays _ _ _ (fun _ h => h.nil.elim) (asArgs0_con _ _ _ ht f3)⟩, k4⟩
      · exact h.elim
    · exact h.elim

/-! ### Trees made objects -/
def T0.objs : T0 → List Obj
  | .own e r xs => [.row e r xs]
  | .nest e pk eb r xs => [.nest e pk eb r xs none]
  | _ => []
/-- The cell of a tree whose object has the number n. -/
def T0.cvAt (n : Nat) : T0 → CV
  | .v x => .v x
  | .sl e r xs => .sl e r xs
  | .own .. => .own n
  | .rptr r xs i off => .rptr r xs i off
  | .clo f r x => .clo f r x
  | .bs r xs => .bs r xs
  | .er t c => .er t c
  | .nest .. => .own n
def T0.objsL (ts : List T0) : List Obj := (ts.map T0.objs).flatten
def T0.cvsAt : Nat → List T0 → List CV
  | _, [] => []
  | n, t :: l => t.cvAt n :: T0.cvsAt (n + t.objs.length) l
def TV.objs (n : Nat) : TV → List Obj
  | .c t => t.objs
  | .agg ts => T0.objsL ts
  | .box e ts => T0.objsL ts ++ [.box e (T0.cvsAt n ts)]
def TV.svAt (n : Nat) : TV → SV
  | .c t => .c (t.cvAt n)
  | .agg ts => .agg (T0.cvsAt n ts)
  | .box e ts => .c (.ptr (n + (T0.objsL ts).length) 0)
def TV.objsL : Nat → List TV → List Obj
  | _, [] => []
  | n, t :: l => t.objs n ++ TV.objsL (n + (t.objs n).length) l
def TV.svsAt : Nat → List TV → List SV
  | _, [] => []
  | n, t :: l => t.svAt n :: TV.svsAt (n + (t.objs n).length) l
theorem T0.inst_eq (hp : List Obj) (t : T0) : t.inst hp = (t.cvAt hp.length, hp ++ t.objs) := by cases t <;> simp [T0.inst, T0.objs, T0.cvAt]
theorem T0.insts_eq : ∀ (hp : List Obj) (l : List T0), T0.insts hp l = (T0.cvsAt hp.length l, hp ++ T0.objsL l)
  | hp, [] => by simp [T0.insts, T0.objsL, T0.cvsAt]
  | hp, t :: l => by
    simp [T0.insts, T0.inst_eq, T0.insts_eq, T0.cvsAt, T0.objsL]
theorem TV.inst_eq (hp : List Obj) (t : TV) : t.inst hp = (t.svAt hp.length, hp ++ t.objs hp.length) := by
  cases t with
  | c t => simp [TV.inst, T0.inst_eq, TV.svAt, TV.objs]
  | agg ts => simp [TV.inst, T0.insts_eq, TV.svAt, TV.objs]
  | box e ts => simp [TV.inst, T0.insts_eq, TV.svAt, TV.objs]
theorem TV.insts_eq : ∀ (hp : List Obj) (l : List TV), TV.insts hp l = (TV.svsAt hp.length l, hp ++ TV.objsL hp.length l)
  | hp, [] => by simp [TV.insts, TV.objsL, TV.svsAt]
  | hp, t :: l => by
    simp [TV.insts, TV.inst_eq, TV.insts_eq, TV.svsAt, TV.objsL]
def nF : Fp := fun _ => none
theorem T0.con_len {A : Acc} {t : T0} {u : Value} {os : List Fp} (h : t.con w A u os) : t.objs.length = os.length := by
  cases t with
  | own e r xs => obtain ⟨o, rfl, _⟩ := h; rfl
  | nest e pk eb r xs => obtain ⟨F, rfl, _⟩ := h; rfl
  | _ => rw [h.2]; rfl
theorem T0.cons_len2 {A : Acc} : ∀ {l : List T0} {m : List Value} {os : List Fp}, T0.cons w A l m os → (T0.objsL l).length = os.length
  | [], [], _, h => by rw [h]; rfl
  | t :: l, u :: m, _, ⟨o1, o2, rfl, h1, h2⟩ => by
    have := T0.cons_len2 h2
    simp [T0.objsL] at this ⊢
    rw [T0.con_len h1, this]
  | [], _ :: _, _, h => h.elim
  | _ :: _, [], _, h => h.elim
theorem TV.con_len2 {A : Acc} {n : Nat} {t : TV} {u : Value} {os : List Fp} (h : t.con w A u os) : (t.objs n).length = os.length := by
  cases t with
  | c t => exact T0.con_len h
  | agg ts => obtain ⟨l, _, hl⟩ := h; exact T0.cons_len2 hl
  | box e ts => obtain ⟨l, g, c, o1, _, _, hl, _, rfl⟩ := h; simp [TV.objs, T0.cons_len2 hl]
theorem TV.cons_len2 {A : Acc} : ∀ {n : Nat} {l : List TV} {m : List Value} {os : List Fp}, TV.cons w A l m os → (TV.objsL n l).length = os.length
  | _, [], [], _, h => by rw [h]; rfl
  | n, t :: l, u :: m, _, ⟨o1, o2, rfl, h1, h2⟩ => by
    show (t.objs n ++ TV.objsL _ l).length = _
    rw [List.length_append, List.length_append, TV.con_len2 h1, TV.cons_len2 h2]
  | _, [], _ :: _, _, h => h.elim
  | _, _ :: _, [], _, h => h.elim
theorem getD_app_l {o1 o2 : List Fp} {k : Nat} (h : k < o1.length) : (o1 ++ o2).getD k nF = o1.getD k nF := by simp [List.getD_eq_getElem?_getD, List.getElem?_append_left h]
theorem getD_app_r {o1 o2 : List Fp} {k : Nat} : (o1 ++ o2).getD (o1.length + k) nF = o2.getD k nF := by simp [List.getD_eq_getElem?_getD, List.getElem?_append_right]
/-- A tree's cell, and its objects. -/
theorem T0.inst_rep {A : Acc} {t : T0} {u : Value} {os : List Fp} {hp : List Obj} {n : Nat} (h : t.con w A u os) (hst : AStays w w A (accOf w β hp)) (hn : n + t.objs.length ≤ hp.length) (hg : ∀ k, k < t.objs.length → hget hp (n + k) = hget t.objs k) (hb : ∀ k, k < os.length → β.f (n + k) = os.getD k nF) :
    (t.cvAt n).rep w β hp u ∧ ∀ k, k < t.objs.length → ObjRep w β hp (n + k) := by
  cases t with
  | v x => exact ⟨h.1, fun k hk => by simp [T0.objs] at hk⟩
  | sl e r xs => exact ⟨slRep.mono hst.1 h.1, fun k hk => by simp [T0.objs] at hk⟩
  | rptr r xs i off =>
    obtain ⟨⟨h0, b, o, hv, hrow⟩, _⟩ := h
    exact ⟨⟨h0, b, o, hv, hrow.mono hst.2 hst.1⟩, fun k hk => by simp [T0.objs] at hk⟩
  | clo f r x =>
    obtain ⟨⟨b, o, hv, hrow⟩, _⟩ := h
    exact ⟨⟨b, o, hv, hrow.mono hst.2 hst.1⟩, fun k hk => by simp [T0.objs] at hk⟩
  | bs r xs => exact ⟨bsRep.mono hst.2 hst.1 h.1, fun k hk => by simp [T0.objs] at hk⟩
  | er t c => exact ⟨h.1, fun k hk => by simp [T0.objs] at hk⟩
  | own e r xs =>
    obtain ⟨o, rfl, hu, hro⟩ := h
    have h0 : hget hp n = .row e r xs := hg 0 (by simp [T0.objs])
    have b0 : β.f n = fp1 o := hb 0 (by simp)
    refine ⟨⟨by simp [T0.objs] at hn; omega, ?_⟩, fun k hk => ?_⟩
    · rw [h0]
      show u = ownVal (β.f n 0) _
      rw [b0]
      exact hu
    · have : k = 0 := by simp [T0.objs] at hk; exact hk
      subst this
      unfold ObjRep
      rw [Nat.add_zero, h0]
      show rowObj w _ (β.f n 0) _ _ _
      rw [b0]
      exact hro.mono hst.1 (fun _ _ _ => rfl)
  | nest e pk eb r xs =>
    obtain ⟨F, rfl, h1, hu, hro⟩ := h
    have h0 : hget hp n = .nest e pk eb r xs none := hg 0 (by simp [T0.objs])
    have b0 : β.f n = F := hb 0 (by simp)
    refine ⟨⟨by simp [T0.objs] at hn; omega, ?_⟩, fun k hk => ?_⟩
    · rw [h0]
      show u = ownVal (β.f n 0) _
      rw [b0]
      exact hu
    · have : k = 0 := by simp [T0.objs] at hk; exact hk
      subst this
      unfold ObjRep
      rw [Nat.add_zero, h0, b0]
      exact hro.same hst.1 (fun _ _ _ _ => rfl)
theorem hget_app_l {l m : List Obj} {k : Nat} (h : k < l.length) : hget (l ++ m) k = hget l k := hget_append_lt _ _ _ h
theorem T0.insts_rep {A : Acc} {hp : List Obj} (hst : AStays w w A (accOf w β hp)) : ∀ {l : List T0} {m : List Value} {os : List Fp} {n : Nat}, T0.cons w A l m os → n + (T0.objsL l).length ≤ hp.length → (∀ k, k < (T0.objsL l).length → hget hp (n + k) = hget (T0.objsL l) k) → (∀ k, k < os.length → β.f (n + k) = os.getD k nF) →
    repL (CV.rep w β hp) (T0.cvsAt n l) m ∧ ∀ k, k < (T0.objsL l).length → ObjRep w β hp (n + k)
  | [], [], _, _, _, _, _, _ => ⟨trivial, fun k hk => by simp [T0.objsL] at hk⟩
  | t :: l, u :: m, _, n, ⟨o1, o2, rfl, h1, h2⟩, hn, hg, hb => by
    have e1 : T0.objsL (t :: l) = t.objs ++ T0.objsL l := by simp [T0.objsL]
    rw [e1] at hn hg
    rw [List.length_append] at hn hg
    have hl := T0.con_len h1
    obtain ⟨a1, a2⟩ := T0.inst_rep (hp := hp) (n := n) h1 hst (by omega) (fun k hk => by rw [hg k (by omega), hget_app_l hk]) (fun k hk => by rw [hb k (by simp; omega), getD_app_l hk])
    obtain ⟨b1, b2⟩ := T0.insts_rep hst (n := n + t.objs.length) h2 (by omega) (fun k hk => by rw [Nat.add_assoc, hg _ (by omega), hget_append_ge]) (fun k hk => by rw [Nat.add_assoc, hl, hb _ (by simp; omega), getD_app_r])
    refine ⟨⟨a1, b1⟩, fun k hk => ?_⟩
    rw [e1, List.length_append] at hk
    by_cases hk1 : k < t.objs.length
    · exact a2 k hk1
    · have := b2 (k - t.objs.length) (by omega)
      rwa [show n + t.objs.length + (k - t.objs.length) = n + k by omega] at this
  | [], _ :: _, _, _, h, _, _, _ => h.elim
  | _ :: _, [], _, _, h, _, _, _ => h.elim
theorem TV.inst_rep {A : Acc} {t : TV} {u : Value} {os : List Fp} {hp : List Obj} {n : Nat} (h : t.con w A u os) (hst : AStays w w A (accOf w β hp)) (hn : n + (t.objs n).length ≤ hp.length) (hg : ∀ k, k < (t.objs n).length → hget hp (n + k) = hget (t.objs n) k) (hb : ∀ k, k < os.length → β.f (n + k) = os.getD k nF) :
    (t.svAt n).rep w β hp u ∧ ∀ k, k < (t.objs n).length → ObjRep w β hp (n + k) := by
  cases t with
  | c t => exact T0.inst_rep h hst hn hg hb
  | agg ts =>
    obtain ⟨l, hu, hl⟩ := h
    obtain ⟨a1, a2⟩ := T0.insts_rep hst hl hn hg hb
    exact ⟨⟨l, hu, a1⟩, a2⟩
  | box e ts =>
    obtain ⟨l, g, c, o1, hu, hgg, hl, hone, rfl⟩ := h
    have hlen := T0.cons_len2 hl
    have hol : (TV.objs n (.box e ts)).length = (T0.objsL ts).length + 1 := by simp [TV.objs]
    rw [hol] at hn hg
    obtain ⟨a1, a2⟩ := T0.insts_rep (hp := hp) hst hl (n := n) (by omega) (fun k hk => by rw [hg k (by omega)]; exact hget_app_l hk) (fun k hk => by rw [hb k (by simp; omega), getD_app_l hk])
    have h0 : hget hp (n + (T0.objsL ts).length) = .box e (T0.cvsAt n ts) := by
      rw [hg _ (by omega)]
      exact hget_append_new _ _
    have b0 : β.f (n + (T0.objsL ts).length) = fp1 (some (g, c)) := by
      rw [hlen, hb _ (by simp)]
      have := getD_app_r (o1 := o1) (o2 := [fp1 (some (g, c))]) (k := 0)
      rw [Nat.add_zero] at this
      rw [this]
      rfl
    refine ⟨⟨by omega, ?_⟩, fun k hk => ?_⟩
    · rw [h0]
      exact ⟨g, c, by show β.f _ 0 = _; rw [b0]; rfl, hu⟩
    · rw [hol] at hk
      by_cases hk1 : k < (T0.objsL ts).length
      · exact a2 k hk1
      · have : k = (T0.objsL ts).length := by omega
        subst this
        unfold ObjRep
        rw [h0]
        exact ⟨g, c, l.toArray, by show β.f _ 0 = _; rw [b0]; rfl, hgg, by simpa using a1, fun v hv => hone v (by simpa using hv)⟩
theorem TV.insts_rep {A : Acc} {hp : List Obj} (hst : AStays w w A (accOf w β hp)) : ∀ {l : List TV} {m : List Value} {os : List Fp} {n : Nat}, TV.cons w A l m os → n + (TV.objsL n l).length ≤ hp.length → (∀ k, k < (TV.objsL n l).length → hget hp (n + k) = hget (TV.objsL n l) k) → (∀ k, k < os.length → β.f (n + k) = os.getD k nF) →
    repL (SV.rep w β hp) (TV.svsAt n l) m ∧ ∀ k, k < (TV.objsL n l).length → ObjRep w β hp (n + k)
  | [], [], _, _, _, _, _, _ => ⟨trivial, fun k hk => by simp [TV.objsL] at hk⟩
  | t :: l, u :: m, _, n, ⟨o1, o2, rfl, h1, h2⟩, hn, hg, hb => by
    have e1 : TV.objsL n (t :: l) = t.objs n ++ TV.objsL (n + (t.objs n).length) l := rfl
    rw [e1] at hn hg
    rw [List.length_append] at hn hg
    have hl := TV.con_len2 (n := n) h1
    obtain ⟨a1, a2⟩ := TV.inst_rep (hp := hp) (n := n) h1 hst (by omega) (fun k hk => by rw [hg k (by omega), hget_app_l hk]) (fun k hk => by rw [hb k (by simp; omega), getD_app_l hk])
    obtain ⟨b1, b2⟩ := TV.insts_rep hst (n := n + (t.objs n).length) h2 (by omega) (fun k hk => by rw [Nat.add_assoc, hg _ (by omega), hget_append_ge]) (fun k hk => by rw [Nat.add_assoc, hl, hb _ (by simp; omega), getD_app_r])
    refine ⟨⟨a1, b1⟩, fun k hk => ?_⟩
    rw [e1, List.length_append] at hk
    by_cases hk1 : k < (t.objs n).length
    · exact a2 k hk1
    · have := b2 (k - (t.objs n).length) (by omega)
      rwa [show n + (t.objs n).length + (k - (t.objs n).length) = n + k by omega] at this
  | [], _ :: _, _, _, h, _, _, _ => h.elim
  | _ :: _, [], _, _, h, _, _, _ => h.elim

theorem hget_news (hp l : List Obj) (id : Nat) (h : hp.length ≤ id) : hget (hp ++ l) id = hget l (id - hp.length) := by
  have := hget_append_ge hp l (id - hp.length)
  rwa [Nat.add_sub_cancel' h] at this
def bext (β : Bs) (n : Nat) (os : List Fp) : Bs := ⟨fun id => if id < n then β.f id else os.getD (id - n) nF, β.out⟩
theorem getD_nF {os : List Fp} {k j g c : Nat} (h : os.getD k nF j = some (g, c)) : os[k]? = some (os.getD k nF) := by
  rw [List.getD_eq_getElem?_getD] at h ⊢
  cases hq : os[k]? with
  | none => rw [hq] at h; cases h
  | some x => rfl
/-- What a call handed back takes its place in the state. -/
theorem HRep.news {hp : List Obj} (hH : HRep w β hp) {w' : World} (hB : Below w.heap.size w w') {objs : List Obj} {os : List Fp}
    (ha : Apart os) (hf : ∀ g, InOs os g → w.heap.size ≤ g) :
    Evo w β hp w' (bext β hp.length os) (hp ++ objs) ∧ AStays w' w' (.of (okRes w (imm w β hp) w' os)) (accOf w' (bext β hp.length os) (hp ++ objs)) ∧
      ((∀ k, k < objs.length → ObjRep w' (bext β hp.length os) (hp ++ objs) (hp.length + k)) → HRep w' (bext β hp.length os) (hp ++ objs)) := by
  have hbn : ∀ id, hp.length ≤ id → (bext β hp.length os).f id = os.getD (id - hp.length) nF := fun id h => if_neg (by omega)
  have hbo : ∀ id, id < hp.length → (bext β hp.length os).f id = β.f id := fun id h => if_pos h
  obtain ⟨e1, e2⟩ := hH.step (w' := w') (β' := bext β hp.length os) (hp' := hp ++ objs) (fun id => hp.length ≤ id) hB.os hB.tape hB.output hB.size (by simp) rfl
    (fun b hb _ => hB.block b hb)
    (fun id hn hl => by
      have hlt : id < hp.length := by omega
      exact ⟨hget_append_lt _ _ _ hlt, hbo id hlt, fun j g c hf hb => hB.block g (hH.ltj hf hb)⟩)
    (fun id j g c hn hl hb => by
      rw [hbn id hn] at hb
      exact .inl (hf g (InOs.of_get (getD_nF hb) hb)))
    (fun id id' j j' g c c' hn hn' _ _ hb hb' => by
      rw [hbn id hn] at hb
      rw [hbn id' hn'] at hb'
      have := ha _ _ _ _ j j' g c c' (getD_nF hb) (getD_nF hb') hb hb'
      exact ⟨by omega, this.2⟩)
    (fun id hid => .inl ⟨hget_append_lt _ _ _ hid, hbo id hid⟩)
  have hst : ∀ b, okRes w (imm w β hp) w' os b → imm w' (bext β hp.length os) (hp ++ objs) b := by
    rintro b ⟨h1, h2, h3⟩
    refine ⟨h2, ?_, ?_⟩
    · rintro ⟨id, j, c, hl, hb⟩
      by_cases hid : id < hp.length
      · rw [hbo id hid] at hb
        have hl' : fp hp id j := (fp_get (hget_append_lt _ _ _ hid)).1 hl
        rcases h1 with h1 | h1
        · exact h1.2.1 ⟨id, j, c, hl', hb⟩
        · have := hH.ltj hl' hb
          omega
      · rw [hbn id (by omega)] at hb
        exact h3 (InOs.of_get (getD_nF hb) hb)
    · intro ho'
      rcases h1 with h1 | h1
      · exact h1.2.2 ho'
      · have := hH.old b ho'
        omega
  refine ⟨e1, ⟨Stays.sub hst, Stays.sub fun b hb => imm_nomut (hst b hb)⟩, fun ho => e2 fun id hn hid => ?_⟩
  have := ho (id - hp.length) (by simp at hid; omega)
  rwa [show hp.length + (id - hp.length) = id by omega] at this
end
end Go.AX
