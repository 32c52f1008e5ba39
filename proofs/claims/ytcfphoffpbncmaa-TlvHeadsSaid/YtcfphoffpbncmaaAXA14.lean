/- The abstract executor, part 14: regions whose order is drawn: the text's order speaks for every order. -/
import Derived.Test.YtcfphoffpbncmaaAXA13
set_option linter.unusedVariables false
set_option linter.unusedSimpArgs false
namespace Go.AX
open Go.RowKit
section
variable {P : Program} {E : Env} {spec : Sp}
/-! ### What a call hands back, only read from then on -/
theorem T0.frz_con {w : World} {A A' : Acc} (hst : AStays w w A A') {t : T0} {u : Value} {os : List Fp} (hf : t.frzable = true) (hos : ∀ g, InOs os g → A'.ok g) (h : t.con w A u os) : t.frz.con w A' u [] := by
  cases t with
  | v x => exact ⟨h.1, rfl⟩
  | sl e r xs => exact ⟨slRep.mono hst.1 h.1, rfl⟩
  | rptr r xs i off =>
    obtain ⟨⟨h0, b, o, hv, hrow⟩, _⟩ := h
    exact ⟨⟨h0, b, o, hv, hrow.mono hst.2 hst.1⟩, rfl⟩
  | clo f r x =>
    obtain ⟨⟨b, o, hv, hrow⟩, _⟩ := h
    exact ⟨⟨b, o, hv, hrow.mono hst.2 hst.1⟩, rfl⟩
  | bs r xs => exact ⟨bsRep.mono hst.2 hst.1 h.1, rfl⟩
  | er t c => exact ⟨h.1, rfl⟩
  | own e r xs =>
    obtain ⟨o, rfl, hu, hr⟩ := h
    refine ⟨?_, rfl⟩
    rw [hu]
    exact slRep_own hst.1 hr fun g c e => hos g (InOs.one (j := 0) (by exact e))
  | nest e pk eb r xs => cases hf
theorem T0.frzs_con {w : World} {A A' : Acc} (hst : AStays w w A A') : ∀ (l : List T0) (m : List Value) (os : List Fp), (l.all T0.frzable) = true → (∀ g, InOs os g → A'.ok g) → T0.cons w A l m os → T0.cons w A' (l.map T0.frz) m []
  | [], [], _, _, _, _ => rfl
  | t :: l, u :: m, os, hf, hos, ⟨o1, o2, ho, h1, h2⟩ => by
    subst ho
    simp only [List.all_cons, Bool.and_eq_true] at hf
    exact ⟨[], [], rfl, T0.frz_con hst hf.1 (fun g hm => hos g hm.left) h1, T0.frzs_con hst l m o2 hf.2 (fun g hm => hos g hm.right) h2⟩
  | [], _ :: _, _, _, _, h => h.elim
  | _ :: _, [], _, _, _, h => h.elim
theorem TV.frz_cons {w : World} {A A' : Acc} (hst : AStays w w A A') : ∀ (l : List TV) (m : List Value) (os : List Fp), (l.all TV.frzable) = true → (∀ g, InOs os g → A'.ok g) → TV.cons w A l m os → TV.cons w A' (l.map TV.frz) m []
  | [], [], _, _, _, _ => rfl
  | t :: l, u :: m, os, hf, hos, ⟨o1, o2, ho, h1, h2⟩ => by
    subst ho
    simp only [List.all_cons, Bool.and_eq_true] at hf
    refine ⟨[], [], rfl, ?_, TV.frz_cons hst l m o2 hf.2 (fun g hm => hos g hm.right) h2⟩
    cases t with
    | c t => exact T0.frz_con hst hf.1 (fun g hm => hos g hm.left) h1
    | agg ts =>
      obtain ⟨l', hu, hl⟩ := h1
      exact ⟨l', hu, T0.frzs_con hst ts l' o1 hf.1 (fun g hm => hos g hm.left) hl⟩
    | box e ts => cases hf.1
  | [], _ :: _, _, _, _, h => h.elim
  | _ :: _, [], _, _, _, h => h.elim
theorem T0.con_lt {w : World} {A : Acc} {t : T0} {u : Value} {os : List Fp} (h : t.con w A u os) : ∀ g, InOs os g → t.frzable = true → g < w.heap.size := by
  intro g hm hf
  cases t with
  | own e r xs =>
    obtain ⟨o, rfl, hu, hr⟩ := h
    obtain ⟨F, hF, j, c, hj⟩ := hm
    rw [List.mem_singleton.1 hF] at hj
    obtain ⟨rfl, rfl⟩ := fp1_some hj
    rcases hr with ⟨h0, _⟩ | ⟨g', cap, cells, h0, hc, _⟩
    · cases h0
    · injection h0 with h0
      injection h0 with h1 h2
      subst h1
      exact (Array.getElem?_eq_some_iff.1 hc).1
  | nest e pk eb r xs => cases hf
  | _ => rw [h.2] at hm; exact hm.nil.elim
theorem T0.cons_lt {w : World} {A : Acc} : ∀ (l : List T0) (m : List Value) (os : List Fp), (l.all T0.frzable) = true → T0.cons w A l m os → ∀ g, InOs os g → g < w.heap.size
  | [], [], _, _, h, g, hm => by rw [h] at hm; exact hm.nil.elim
  | t :: l, u :: m, os, hf, ⟨o1, o2, ho, h1, h2⟩, g, hm => by
    subst ho
    simp only [List.all_cons, Bool.and_eq_true] at hf
    rcases hm.split with hm | hm
    · exact T0.con_lt h1 g hm hf.1
    · exact T0.cons_lt l m o2 hf.2 h2 g hm
  | [], _ :: _, _, _, h, _, _ => h.elim
  | _ :: _, [], _, _, h, _, _ => h.elim
theorem TV.cons_lt {w : World} {A : Acc} : ∀ (l : List TV) (m : List Value) (os : List Fp), (l.all TV.frzable) = true → TV.cons w A l m os → ∀ g, InOs os g → g < w.heap.size
  | [], [], _, _, h, g, hm => by rw [h] at hm; exact hm.nil.elim
  | t :: l, u :: m, os, hf, ⟨o1, o2, ho, h1, h2⟩, g, hm => by
    subst ho
    simp only [List.all_cons, Bool.and_eq_true] at hf
    rcases hm.split with hm | hm
    · cases t with
      | c t => exact T0.con_lt h1 g hm hf.1
      | agg ts =>
        obtain ⟨l', hu, hl⟩ := h1
        exact T0.cons_lt ts l' o1 hf.1 hl g hm
      | box e ts => cases hf.1
    · exact TV.cons_lt l m o2 hf.2 h2 g hm
  | [], _ :: _, _, _, h, _, _ => h.elim
  | _ :: _, [], _, _, h, _, _ => h.elim
theorem CallP.mono {f : FuncId} {args : Array Value} {w : World} {T T' : Value → World → Prop} (h : ∀ v w', T v w' → T' v w') (hc : CallP P f args w T) : CallP P f args w T' :=
  hc.imp (fun ⟨h1, h2⟩ => ⟨h1, h2.mono fun e w' ⟨v, he, ht⟩ => ⟨v, he, h v w' ht⟩⟩) (fun ⟨v, w', h1, h2⟩ => ⟨v, w', h1, h v w' h2⟩)
theorem SpecOk.frz {f : FuncId} {S : PSpec} (h : SpecOk P f S) : SpecOk P f fun ts => ((S ts).1 ∧ ((S ts).2.all TV.frzable) = true, (S ts).2.map TV.frz) := by
  intro args vs w A hao hbo hc hs
  refine (h args vs w A hao hbo hc hs.1).mono ?_
  rintro v w' ⟨us, hv, ⟨os, h1, h2, h3⟩, hB⟩
  refine ⟨us, hv, ⟨[], ?_, Apart.nil, fun g hm => hm.nil.elim⟩, hB⟩
  have hsub : ∀ b, okRes w A.ok w' os b → okRes w A.ok w' [] b := fun b hb => ⟨hb.1, hb.2.1, fun h => h.nil⟩
  exact TV.frz_cons ⟨Stays.sub hsub, Stays.sub hsub⟩ _ _ _ hs.2 (fun g hm => ⟨.inr (h3 g hm), TV.cons_lt _ _ _ hs.2 h1 g hm, fun h => h.nil⟩) h1
theorem T0.plain_os {w : World} {A : Acc} {t : T0} {u : Value} {os : List Fp} (hp : t.plain = true) (h : t.con w A u os) : os = [] := by
  cases t with
  | own e r xs => cases hp
  | nest e pk eb r xs => cases hp
  | _ => exact h.2
theorem T0.plains_os {w : World} {A : Acc} : ∀ {l : List T0} {m : List Value} {os : List Fp}, (l.all T0.plain) = true → T0.cons w A l m os → os = []
  | [], [], _, _, h => h
  | t :: l, u :: m, _, hp, ⟨o1, o2, ho, h1, h2⟩ => by
    simp only [List.all_cons, Bool.and_eq_true] at hp
    rw [ho, T0.plain_os hp.1 h1, T0.plains_os hp.2 h2]
    rfl
  | [], _ :: _, _, _, h => h.elim
  | _ :: _, [], _, _, h => h.elim
theorem TV.plains_os {w : World} {A : Acc} : ∀ {l : List TV} {m : List Value} {os : List Fp}, (l.all TV.plain) = true → TV.cons w A l m os → os = []
  | [], [], _, _, h => h
  | t :: l, u :: m, _, hp, ⟨o1, o2, ho, h1, h2⟩ => by
    simp only [List.all_cons, Bool.and_eq_true] at hp
    rw [ho, TV.plains_os hp.2 h2]
    cases t with
    | c t => rw [T0.plain_os hp.1 h1]; rfl
    | agg ts => obtain ⟨l', _, hl⟩ := h1; rw [T0.plains_os hp.1 hl]; rfl
    | box e ts => cases hp.1
  | [], _ :: _, _, _, h => h.elim
  | _ :: _, [], _, _, h => h.elim
theorem TV.cons_app {w : World} {A : Acc} : ∀ {l1 l2 : List TV} {m1 m2 : List Value} {o1 o2 : List Fp}, TV.cons w A l1 m1 o1 → TV.cons w A l2 m2 o2 → TV.cons w A (l1 ++ l2) (m1 ++ m2) (o1 ++ o2)
  | [], _, [], _, o1, _, h1, h2 => by
    have h1 : o1 = [] := h1
    subst h1
    exact h2
  | t :: l1, _, u :: m1, _, _, _, ⟨o3, o4, rfl, h3, h4⟩, h2 => ⟨o3, _, by rw [List.append_assoc], h3, TV.cons_app h4 h2⟩
  | [], _, _ :: _, _, _, _, h, _ => h.elim
  | _ :: _, _, [], _, _, _, h, _ => h.elim
theorem Apart.right {o1 o2 : List Fp} (h : Apart (o1 ++ o2)) : Apart o2 := fun i i' F F' j j' g c c' hi hi' e e' => by
  have := h (o1.length + i) (o1.length + i') F F' j j' g c c' (by rw [List.getElem?_append_right (by omega), Nat.add_sub_cancel_left]; exact hi) (by rw [List.getElem?_append_right (by omega), Nat.add_sub_cancel_left]; exact hi') e e'
  exact ⟨by omega, this.2⟩
theorem ISpecOk.frz {f : FuncId} {I : ISpec} (h : ISpecOk P f I) : ISpecOk P f { md := I.md, S := fun ts => ((I.S ts).1 ∧ ((I.S ts).2.1.all TV.frzable) = true ∧ (ts.all TV.plain) = true, (I.S ts).2.1.map TV.frz, (I.S ts).2.2) } := by
  intro args vs w A os hao hbo hlt hap hc hs hl
  have hos := TV.plains_os hs.2.2 hc
  subst hos
  refine (h args vs w A [] hao hbo hlt hap hc hs.1 hl).mono ?_
  rintro v w' ⟨us, os', hv, h1, h2, h3, h4, hB⟩
  obtain ⟨oR, oA, rfl, k1, k2⟩ := TV.cons_split h1 h2
  have hnew : ∀ g, InOs (oR ++ oA) g → w.heap.size ≤ g := fun g hg => (h4 g hg).resolve_right fun h => h.nil
  have hsub : ∀ b, okRes w (fun b => A.ok b ∨ InOs [] b) w' (oR ++ oA) b → okRes w (fun b => A.ok b ∨ InOs [] b) w' oA b := fun b hb => ⟨hb.1, hb.2.1, fun h => hb.2.2 h.right⟩
  have hsep : ∀ g, InOs oR g → ¬ InOs oA g := by
    rintro g ⟨F, hF, j, c, e⟩ ⟨F', hF', j', c', e'⟩
    obtain ⟨i, hi⟩ := List.mem_iff_getElem?.1 hF
    obtain ⟨i', hi'⟩ := List.mem_iff_getElem?.1 hF'
    have hl := (List.getElem?_eq_some_iff.1 hi).1
    have := h3 i (oR.length + i') F F' j j' g c c' (by rw [List.getElem?_append_left hl]; exact hi) (by rw [List.getElem?_append_right (by omega), Nat.add_sub_cancel_left]; exact hi') e e'
    omega
  refine ⟨us, oA, hv, ?_, by simpa using h2, h3.right, fun g hg => .inl (hnew g hg.right), hB⟩
  exact TV.cons_app (o1 := []) (TV.frz_cons ⟨Stays.sub hsub, Stays.sub hsub⟩ _ _ _ hs.2.1 (fun g hm => ⟨.inr (hnew g hm.left), TV.cons_lt _ _ _ hs.2.1 k1 g hm, hsep g hm⟩) k1)
    (TV.cons_mono ⟨Stays.sub hsub, Stays.sub hsub⟩ _ _ _ (fun _ _ => rfl) k2)
theorem frzS_ok (hsp : SpsOk P spec) : SpsOk P (frzS spec) := by
  constructor
  · intro f S h
    unfold frzS at h
    dsimp only at h
    split at h
    · rename_i S' hS'
      injection h with h
      subst h
      exact (hsp.p f S' hS').frz
    · cases h
  · intro f S h
    unfold frzS at h
    dsimp only at h
    split at h
    · rename_i S' hS'
      injection h with h
      subst h
      exact (hsp.i f S' hS').frz
    · cases h
/-! ### No object looked at -/
theorem ev_hp (s : St) (hp : List Obj) (x : Operand) : ({ s with hp := hp } : St).ev x = s.ev x := by cases x <;> rfl
theorem aop_hp0 {ld : List Nat} {i : Nat} {op : Op} (hc : opCls E ld i op = 0) (hna : isAlloc op = none) {s : St} (hp : List Obj) {K : AV → Prop} (h : aop E spec op s fun v _ => K v) : aop E spec op { s with hp := hp } fun v h => h = hp ∧ K v := by
  cases op with
  | move x => simp only [aop, ev_hp] at h ⊢; exact ⟨trivial, h⟩
  | assign x => simp only [aop, ev_hp] at h ⊢; exact ⟨trivial, h⟩
  | pick c x y =>
    simp only [aop, ev_hp] at h ⊢
    split at h
    · exact ⟨fun e => ⟨trivial, h.1 e⟩, fun e => ⟨trivial, h.2 e⟩⟩
    · exact h.elim
  | unOp op t x =>
    cases op with
    | not =>
      simp only [aop, ev_hp] at h ⊢
      split at h
      · exact ⟨trivial, h⟩
      · exact h.elim
    | _ => exact h.elim
  | extract x i =>
    simp only [aop, ev_hp] at h ⊢
    split at h
    · split at h
      · exact ⟨trivial, h⟩
      · exact h.elim
    · exact h.elim
  | field t x f =>
    simp only [aop, ev_hp] at h ⊢
    split at h
    · split at h
      · rename_i hn
        rw [if_pos hn]
        obtain ⟨r, h1, h2⟩ := mkSV_pt _ h
        exact h2 _ ⟨trivial, h1⟩
      · exact h.elim
    · exact h.elim
  | makeInterface t x =>
    simp only [aop, ev_hp] at h ⊢
    split at h
    · split at h
      · rename_i hn
        rw [if_pos hn]
        exact ⟨trivial, h⟩
      · exact h.elim
    · exact h.elim
  | convert s d x =>
    simp only [opCls] at hc
    split at hc <;> cases hc
  | call c =>
    simp only [opCls] at hc
    split at hc
    · cases hc
    · split at hc <;> cases hc
    · cases hc
  | slice t x lo hi mx =>
    simp only [opCls] at hc
    split at hc <;> cases hc
  | load t x =>
    simp only [opCls] at hc
    split at hc <;> cases hc
  | alloc t => cases hna
  | _ => cases hc
/-! ### The text's order, step by step -/
def wantA (all : Array Oper) (s : St) (o : Oper) : Prop := o.guard = none ∨ ∃ j want d, o.guard = some (j, want) ∧ (all[j]?).bind (·.dst) = some d ∧ s.get d = .b want
def skipA (all : Array Oper) (s : St) (o : Oper) : Prop := ∃ j want d, o.guard = some (j, want) ∧ (all[j]?).bind (·.dst) = some d ∧ s.get d = .b !want
def clsSpec (spec : Sp) (c : Nat) : Sp := if c = 2 then spec else frzS spec
def StepA (E : Env) (spec : Sp) (all : Array Oper) (c zi : Nat) (o : Oper) (s s' : St) : Prop :=
  (∃ t z, o.op = .alloc t ∧ o.guard = none ∧ E.zero t = some z ∧ s' = s.put s.hp o.dst (.cv (.ptr zi 0))) ∨
  (wantA all s o ∧ isAlloc o.op = none ∧ ∃ v hp, s' = s.put hp o.dst v ∧ (c ≠ 2 → hp = s.hp) ∧ ∀ K' : AV → List Obj → Prop, K' v hp → aop E (clsSpec spec c) o.op s K') ∨
  (skipA all s o ∧ s' = s.put s.hp o.dst (.cv .any))
theorem aopD_one {c : Nat} {op : Op} {s : St} {K : AV → List Obj → Prop} (h : aopD E spec c op s K) : ∃ v hp, K v hp ∧ (c ≠ 2 → hp = s.hp) ∧ ∀ K' : AV → List Obj → Prop, K' v hp → aop E (clsSpec spec c) op s K' := by
  unfold aopD at h
  unfold clsSpec
  split at h
  · rename_i hc
    obtain ⟨v, hp, h1, h2⟩ := aop_one h
    exact ⟨v, hp, h1, fun hn => absurd hc hn, by rw [if_pos hc]; exact h2⟩
  · rename_i hc
    obtain ⟨v, hp, ⟨h0, h1⟩, h2⟩ := aop_one h
    subst h0
    exact ⟨v, _, h1, fun _ => rfl, by rw [if_neg hc]; exact h2⟩
theorem upd_same {s : St} {d : Nat} {b : Bool} (h : s.get d = .b b) : ({ s with sl := upd s.sl d (.b b) } : St) = s := by
  have hd : s.sl d = .b b := by
    unfold St.get at h
    split at h
    · exact h
    · cases h
  have : upd s.sl d (.b b) = s.sl := by
    funext n
    unfold upd
    split
    · rename_i e; rw [e, hd]
    · rfl
  rw [this]
theorem trace {ld : List Nat} {n0 : Nat} {all : Array Oper} {K : St → Prop} : ∀ (rest : List Oper) (i : Nat) (s : St), rest = all.toList.drop i → i + rest.length = all.size → aopsD E spec ld n0 all i rest s K →
    ∃ S : Nat → St, S i = s ∧ K (S all.size) ∧ ∀ k o, i ≤ k → all[k]? = some o → StepA E spec all (opCls E ld k o.op) (n0 + zat all.toList k) o (S k) (S (k + 1))
  | [], i, s, hr, hl, h => by
    refine ⟨fun _ => s, rfl, h, fun k o hk ho => ?_⟩
    have := (Array.getElem?_eq_some_iff.1 ho).1
    simp at hl
    omega
  | o :: rest, i, s, hr, hl, h => by
    have ho : all[i]? = some o := by
      rw [← Array.getElem?_toList]
      have := congrArg (·[0]?) hr
      simpa using this.symm
    have hr' : rest = all.toList.drop (i + 1) := by
      have := congrArg List.tail hr
      simpa using this
    have fin : ∀ s', aopsD E spec ld n0 all (i + 1) rest s' K → StepA E spec all (opCls E ld i o.op) (n0 + zat all.toList i) o s s' → ∃ S : Nat → St, S i = s ∧ K (S all.size) ∧ ∀ k o, i ≤ k → all[k]? = some o → StepA E spec all (opCls E ld k o.op) (n0 + zat all.toList k) o (S k) (S (k + 1)) := by
      intro s' h' hs
      obtain ⟨S, h0, h1, h2⟩ := trace rest (i + 1) s' hr' (by simp at hl; omega) h'
      refine ⟨fun k => if k ≤ i then s else S k, by simp, ?_, fun k o' hk ho' => ?_⟩
      · simp only
        rw [if_neg (by simp at hl; omega)]
        exact h1
      · by_cases hki : k = i
        · subst hki
          rw [ho] at ho'
          injection ho' with ho'
          subst ho'
          simp only
          rw [if_pos (Nat.le_refl _), if_neg (by omega), h0]
          exact hs
        · simp only
          rw [if_neg (by omega), if_neg (by omega)]
          exact h2 k o' (by omega) ho'
    unfold aopsD at h
    simp only [St.next_eq] at h
    split at h
    · rename_i hg
      split at h
      · rename_i t ht
        have hop : o.op = .alloc t := by
          unfold isAlloc at ht
          split at ht
          · rename_i e; injection ht with ht; rw [e, ht]
          · cases ht
        split at h
        · rename_i z hz
          exact fin _ h (.inl ⟨t, z, hop, hg, hz, rfl⟩)
        · exact h.elim
      · rename_i hna
        obtain ⟨v, hp, h1, h2, h3⟩ := aopD_one h
        exact fin _ h1 (.inr (.inl ⟨.inl hg, hna, v, hp, rfl, h2, h3⟩))
    · rename_i j want hg
      split at h
      · rename_i d hd
        split at h
        · rename_i b hb
          obtain ⟨hna, h⟩ := h
          by_cases hbw : b = want
          · subst hbw
            have hu := upd_same hb
            have h1 := h.1 rfl
            rw [hu] at h1
            obtain ⟨v, hp, h1, h2, h3⟩ := aopD_one h1
            exact fin _ h1 (.inr (.inl ⟨.inr ⟨j, b, d, hg, hd, hb⟩, hna, v, hp, rfl, h2, h3⟩))
          · have hb' : b = !want := by cases b <;> cases want <;> simp_all
            subst hb'
            have hu := upd_same hb
            have h1 := h.2 rfl
            rw [hu] at h1
            exact fin _ h1 (.inr (.inr ⟨⟨j, want, d, hg, hd, hb⟩, rfl⟩))
        · exact h.elim
      · exact h.elim
theorem StepA.slot {all : Array Oper} {c zi : Nat} {o : Oper} {s s' : St} (h : StepA E spec all c zi o s s') {t : Nat} (ht : o.dst ≠ some t) : s'.sl t = s.sl t := by
  have key : ∀ hp v, (s.put hp o.dst v).sl t = s.sl t := fun hp v => by
    cases hd : o.dst with
    | none => rfl
    | some d =>
      show (if t = d then v else s.sl t) = _
      rw [if_neg (fun e => ht (by rw [hd, e]))]
  rcases h with ⟨_, _, _, _, _, rfl⟩ | ⟨_, _, v, hp, rfl, _⟩ | ⟨_, rfl⟩
  · exact key _ _
  · exact key _ _
  · exact key _ _
theorem zboxes_get {E : Env} : ∀ (l : List Oper) (k : Nat) (o : Oper) (t : TypeId) (z : List Value), l[k]? = some o → o.op = .alloc t → E.zero t = some z → hget (zboxes E l) (zat l k) = .zbox t (z.map CV.v) ∧ zat l k < (zboxes E l).length
  | [], k, o, t, z, h, _, _ => by simp at h
  | x :: l, 0, o, t, z, h, ho, hz => by
    simp at h
    subst h
    have hx : isAlloc x.op = some t := by rw [ho]; rfl
    unfold zboxes
    simp only [zat, hx, hz]
    exact ⟨rfl, by simp⟩
  | x :: l, k + 1, o, t, z, h, ho, hz => by
    have ih := zboxes_get l k o t z (by simpa using h) ho hz
    unfold zboxes zat
    cases hx : isAlloc x.op with
    | none => exact ih
    | some t' =>
      dsimp only
      exact ⟨ih.1, by simp; exact ih.2⟩
theorem zat_lt : ∀ (l : List Oper) (k k' : Nat) (o : Oper) (t : TypeId), l[k]? = some o → o.op = .alloc t → k < k' → k' ≤ l.length → zat l k < zat l k'
  | [], k, k', o, t, h, _, _, _ => by simp at h
  | x :: l, 0, k' + 1, o, t, h, ho, _, _ => by
    simp at h
    subst h
    have hx : isAlloc x.op = some t := by rw [ho]; rfl
    simp [zat, hx]
  | x :: l, k + 1, k' + 1, o, t, h, ho, hk, hl => by
    have ih := zat_lt l k k' o t (by simpa using h) ho (by omega) (by simpa using hl)
    unfold zat
    cases isAlloc x.op with
    | none => exact ih
    | some t' => dsimp only; omega
  | _ :: _, k + 1, 0, _, _, _, _, hk, _ => by omega
  | _ :: _, 0, 0, _, _, _, _, hk, _ => by omega
theorem put_hp (s : St) (hp : List Obj) (d : Option Tmp) (v : AV) : (s.put hp d v).hp = hp := by cases d <;> rfl
theorem put_n (s : St) (hp : List Obj) (d : Option Tmp) (v : AV) : (s.put hp d v).n = s.n := by cases d <;> rfl
theorem StepA.heap {all : Array Oper} {c zi : Nat} {o : Oper} {s s' : St} (h : StepA E spec all c zi o s s') (hc : c ≠ 2) : s'.hp = s.hp := by
  rcases h with ⟨_, _, _, _, _, rfl⟩ | ⟨_, _, v, hp, rfl, h2, _⟩ | ⟨_, rfl⟩
  · rw [put_hp]
  · rw [put_hp]; exact h2 hc
  · rw [put_hp]
theorem StepA.n {all : Array Oper} {c zi : Nat} {o : Oper} {s s' : St} (h : StepA E spec all c zi o s s') : s'.n = s.n := by
  rcases h with ⟨_, _, _, _, _, rfl⟩ | ⟨_, _, v, hp, rfl, h2, _⟩ | ⟨_, rfl⟩ <;> rw [put_n]
end
end Go.AX
