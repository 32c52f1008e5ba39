/- The abstract executor, part 14: regions whose order is drawn: the text's order speaks for every order. -/
import Derived.Test.YtcfphoffpbncmaaAXA13
set_option linter.unusedVariables false
set_option linter.unusedSimpArgs false
namespace Go.AX
open Go.RowKit
section
variable {P : Program} {E : Env} {spec : Nat → Option PSpec}
/-! ### What a call hands back, only read from then on -/
theorem T0.frz_con {w : World} {ok ok' : Nat → Prop} (hst : Stays w w ok ok') {t : T0} {u : Value} {os : List (Option (Nat × Nat))} (hos : ∀ g c, some (g, c) ∈ os → ok' g) (h : t.con w ok u os) : t.frz.con w ok' u [] := by
  cases t with
  | v x => exact ⟨h.1, rfl⟩
  | sl e r xs => exact ⟨slRep.mono hst h.1, rfl⟩
  | rptr r xs i off =>
    obtain ⟨⟨h0, b, o, hv, hrow⟩, _⟩ := h
    exact ⟨⟨h0, b, o, hv, hrow.mono hst⟩, rfl⟩
  | clo f r x =>
    obtain ⟨⟨b, o, hv, hrow⟩, _⟩ := h
    exact ⟨⟨b, o, hv, hrow.mono hst⟩, rfl⟩
  | own e r xs =>
    obtain ⟨o, rfl, hu, hr⟩ := h
    refine ⟨?_, rfl⟩
    rw [hu]
    exact slRep_own hst hr fun g c e => hos g c (by rw [e]; simp)
theorem T0.frzs_con {w : World} {ok ok' : Nat → Prop} (hst : Stays w w ok ok') : ∀ (l : List T0) (m : List Value) (os : List (Option (Nat × Nat))), (∀ g c, some (g, c) ∈ os → ok' g) → T0.cons w ok l m os → T0.cons w ok' (l.map T0.frz) m []
  | [], [], _, _, _ => rfl
  | t :: l, u :: m, os, hos, ⟨o1, o2, ho, h1, h2⟩ => by
    subst ho
    exact ⟨[], [], rfl, T0.frz_con hst (fun g c hm => hos g c (by simp [hm])) h1, T0.frzs_con hst l m o2 (fun g c hm => hos g c (by simp [hm])) h2⟩
  | [], _ :: _, _, _, h => h.elim
  | _ :: _, [], _, _, h => h.elim
theorem TV.frz_cons {w : World} {ok ok' : Nat → Prop} (hst : Stays w w ok ok') : ∀ (l : List TV) (m : List Value) (os : List (Option (Nat × Nat))), (∀ g c, some (g, c) ∈ os → ok' g) → TV.cons w ok l m os → TV.cons w ok' (l.map TV.frz) m []
  | [], [], _, _, _ => rfl
  | t :: l, u :: m, os, hos, ⟨o1, o2, ho, h1, h2⟩ => by
    subst ho
    refine ⟨[], [], rfl, ?_, TV.frz_cons hst l m o2 (fun g c hm => hos g c (by simp [hm])) h2⟩
    cases t with
    | c t => exact T0.frz_con hst (fun g c hm => hos g c (by simp [hm])) h1
    | agg ts =>
      obtain ⟨l', hu, hl⟩ := h1
      exact ⟨l', hu, T0.frzs_con hst ts l' o1 (fun g c hm => hos g c (by simp [hm])) hl⟩
  | [], _ :: _, _, _, h => h.elim
  | _ :: _, [], _, _, h => h.elim
theorem T0.con_lt {w : World} {ok : Nat → Prop} {t : T0} {u : Value} {os : List (Option (Nat × Nat))} (h : t.con w ok u os) : ∀ g c, some (g, c) ∈ os → g < w.heap.size := by
  intro g c hm
  cases t with
  | v x => rw [h.2] at hm; cases hm
  | sl e r xs => rw [h.2] at hm; cases hm
  | rptr r xs i off => rw [h.2] at hm; cases hm
  | clo f r x => rw [h.2] at hm; cases hm
  | own e r xs =>
    obtain ⟨o, rfl, hu, hr⟩ := h
    have : o = some (g, c) := (List.mem_singleton.1 hm).symm
    subst this
    rcases hr with ⟨h0, _⟩ | ⟨g', cap, cells, h0, hc, _⟩
    · cases h0
    · injection h0 with h0
      injection h0 with h1 h2
      subst h1
      exact (Array.getElem?_eq_some_iff.1 hc).1
theorem T0.cons_lt {w : World} {ok : Nat → Prop} : ∀ (l : List T0) (m : List Value) (os : List (Option (Nat × Nat))), T0.cons w ok l m os → ∀ g c, some (g, c) ∈ os → g < w.heap.size
  | [], [], _, h, g, c, hm => by rw [h] at hm; cases hm
  | t :: l, u :: m, os, ⟨o1, o2, ho, h1, h2⟩, g, c, hm => by
    subst ho
    rcases List.mem_append.1 hm with hm | hm
    · exact T0.con_lt h1 g c hm
    · exact T0.cons_lt l m o2 h2 g c hm
  | [], _ :: _, _, h, _, _, _ => h.elim
  | _ :: _, [], _, h, _, _, _ => h.elim
theorem TV.cons_lt {w : World} {ok : Nat → Prop} : ∀ (l : List TV) (m : List Value) (os : List (Option (Nat × Nat))), TV.cons w ok l m os → ∀ g c, some (g, c) ∈ os → g < w.heap.size
  | [], [], _, h, g, k, hm => by rw [h] at hm; cases hm
  | t :: l, u :: m, os, ⟨o1, o2, ho, h1, h2⟩, g, k, hm => by
    subst ho
    rcases List.mem_append.1 hm with hm | hm
    · cases t with
      | c t => exact T0.con_lt h1 g k hm
      | agg ts =>
        obtain ⟨l', hu, hl⟩ := h1
        exact T0.cons_lt ts l' o1 hl g k hm
    · exact TV.cons_lt l m o2 h2 g k hm
  | [], _ :: _, _, h, _, _, _ => h.elim
  | _ :: _, [], _, h, _, _, _ => h.elim
theorem CallP.mono {f : FuncId} {args : Array Value} {w : World} {T T' : Value → World → Prop} (h : ∀ v w', T v w' → T' v w') (hc : CallP P f args w T) : CallP P f args w T' :=
  hc.imp (fun ⟨h1, h2⟩ => ⟨h1, h2.mono fun e w' ⟨v, he, ht⟩ => ⟨v, he, h v w' ht⟩⟩) (fun ⟨v, w', h1, h2⟩ => ⟨v, w', h1, h v w' h2⟩)
theorem SpecOk.frz {f : FuncId} {S : PSpec} (h : SpecOk P f S) : SpecOk P f fun ts => ((S ts).1, (S ts).2.map TV.frz) := by
  intro args vs w ok hok hc hs
  refine (h args vs w ok hok hc hs).mono ?_
  rintro v w' ⟨us, hv, ⟨os, h1, h2, h3⟩, hB⟩
  refine ⟨us, hv, ⟨[], ?_, fun i j g c c' hi => by simp at hi, fun g c hm => by simp at hm⟩, hB⟩
  refine TV.frz_cons (fun b hb => ⟨⟨hb.1, hb.2.1, fun c hm => by simp at hm⟩, fun c e fz hc => ⟨fz, hc⟩⟩) _ _ _ (fun g c hm => ⟨.inr (h3 g c hm), TV.cons_lt _ _ _ h1 g c hm, fun c hm => by simp at hm⟩) h1
theorem frzS_ok (hsp : ∀ f S, spec f = some S → SpecOk P f S) : ∀ f S, frzS spec f = some S → SpecOk P f S := by
  intro f S h
  unfold frzS at h
  split at h
  · rename_i S' hS'
    injection h with h
    subst h
    exact (hsp f S' hS').frz
  · cases h
/-! ### No object looked at -/
theorem ev_hp (s : St) (hp : List Obj) (x : Operand) : ({ s with hp := hp } : St).ev x = s.ev x := by cases x <;> rfl
theorem aop_hp0 {ld : List Nat} {i : Nat} {op : Op} (hc : opCls E ld i op = 0) {s : St} (hp : List Obj) {K : AV → Prop} (h : aop E spec op s fun v _ => K v) : aop E spec op { s with hp := hp } fun v h => h = hp ∧ K v := by
  cases op with
  | move x => simp only [aop, ev_hp] at h ⊢; exact ⟨trivial, h⟩
  | assign x => simp only [aop, ev_hp] at h ⊢; exact ⟨trivial, h⟩
  | pick c x y =>
    simp only [aop, ev_hp] at h ⊢
    split at h
    · exact ⟨fun e => ⟨trivial, h.1 e⟩, fun e => ⟨trivial, h.2 e⟩⟩
    · exact h.elim
  | binOp op t x y yt =>
    simp only [aop, ev_hp] at h ⊢
    split at h
    · obtain ⟨r, h1, h2⟩ := binV_pt _ h
      exact h2 _ ⟨trivial, h1⟩
    · exact h.elim
  | unOp op t x =>
    cases op with
    | not =>
      simp only [aop, ev_hp] at h ⊢
      split at h
      · exact ⟨trivial, h⟩
      · exact h.elim
    | _ => exact h.elim
  | extract x i =>
    simp only [aop, ev_hp] at h ⊢
    split at h
    · split at h
      · exact ⟨trivial, h⟩
      · exact h.elim
    · exact h.elim
  | field t x f =>
    simp only [aop, ev_hp] at h ⊢
    split at h
    · split at h
      · rename_i hn
        rw [if_pos hn]
        obtain ⟨r, h1, h2⟩ := mkSV_pt _ h
        exact h2 _ ⟨trivial, h1⟩
      · exact h.elim
    · exact h.elim
  | makeInterface t x =>
    simp only [aop, ev_hp] at h ⊢
    split at h
    · split at h
      · rename_i hn
        rw [if_pos hn]
        exact ⟨trivial, h⟩
      · exact h.elim
    · exact h.elim
  | convert s d x =>
    simp only [opCls] at hc
    split at hc <;> cases hc
  | call c =>
    simp only [opCls] at hc
    split at hc
    · cases hc
    · split at hc <;> cases hc
    · cases hc
  | slice t x lo hi mx =>
    simp only [opCls] at hc
    split at hc <;> cases hc
  | _ => cases hc
/-! ### The text's order, step by step -/
def wantA (all : Array Oper) (s : St) (o : Oper) : Prop := o.guard = none ∨ ∃ j want d, o.guard = some (j, want) ∧ (all[j]?).bind (·.dst) = some d ∧ s.get d = .b want
def skipA (all : Array Oper) (s : St) (o : Oper) : Prop := ∃ j want d, o.guard = some (j, want) ∧ (all[j]?).bind (·.dst) = some d ∧ s.get d = .b !want
def clsSpec (spec : Nat → Option PSpec) (c : Nat) : Nat → Option PSpec := if c = 2 then spec else frzS spec
def StepA (E : Env) (spec : Nat → Option PSpec) (all : Array Oper) (c : Nat) (o : Oper) (s s' : St) : Prop :=
  (wantA all s o ∧ ∃ v hp, s' = s.put hp o.dst v ∧ (c ≠ 2 → hp = s.hp) ∧ ∀ K' : AV → List Obj → Prop, K' v hp → aop E (clsSpec spec c) o.op s K') ∨
  (skipA all s o ∧ s' = s.put s.hp o.dst (.cv .any))
theorem aopD_one {c : Nat} {op : Op} {s : St} {K : AV → List Obj → Prop} (h : aopD E spec c op s K) : ∃ v hp, K v hp ∧ (c ≠ 2 → hp = s.hp) ∧ ∀ K' : AV → List Obj → Prop, K' v hp → aop E (clsSpec spec c) op s K' := by
  unfold aopD at h
  unfold clsSpec
  split at h
  · rename_i hc
    obtain ⟨v, hp, h1, h2⟩ := aop_one h
    exact ⟨v, hp, h1, fun hn => absurd hc hn, by rw [if_pos hc]; exact h2⟩
  · rename_i hc
    obtain ⟨v, hp, ⟨h0, h1⟩, h2⟩ := aop_one h
    subst h0
    exact ⟨v, _, h1, fun _ => rfl, by rw [if_neg hc]; exact h2⟩
theorem upd_same {s : St} {d : Nat} {b : Bool} (h : s.get d = .b b) : ({ s with sl := upd s.sl d (.b b) } : St) = s := by
  have hd : s.sl d = .b b := by
    unfold St.get at h
    split at h
    · exact h
    · cases h
  have : upd s.sl d (.b b) = s.sl := by
    funext n
    unfold upd
    split
    · rename_i e; rw [e, hd]
    · rfl
  rw [this]
theorem trace {ld : List Nat} {all : Array Oper} {K : St → Prop} : ∀ (rest : List Oper) (i : Nat) (s : St), rest = all.toList.drop i → i + rest.length = all.size → aopsD E spec ld all i rest s K →
    ∃ S : Nat → St, S i = s ∧ K (S all.size) ∧ ∀ k o, i ≤ k → all[k]? = some o → StepA E spec all (opCls E ld k o.op) o (S k) (S (k + 1))
  | [], i, s, hr, hl, h => by
    refine ⟨fun _ => s, rfl, h, fun k o hk ho => ?_⟩
    have := (Array.getElem?_eq_some_iff.1 ho).1
    simp at hl
    omega
  | o :: rest, i, s, hr, hl, h => by
    have ho : all[i]? = some o := by
      rw [← Array.getElem?_toList]
      have := congrArg (·[0]?) hr
      simpa using this.symm
    have hr' : rest = all.toList.drop (i + 1) := by
      have := congrArg List.tail hr
      simpa using this
    have fin : ∀ s', aopsD E spec ld all (i + 1) rest s' K → StepA E spec all (opCls E ld i o.op) o s s' → ∃ S : Nat → St, S i = s ∧ K (S all.size) ∧ ∀ k o, i ≤ k → all[k]? = some o → StepA E spec all (opCls E ld k o.op) o (S k) (S (k + 1)) := by
      intro s' h' hs
      obtain ⟨S, h0, h1, h2⟩ := trace rest (i + 1) s' hr' (by simp at hl; omega) h'
      refine ⟨fun k => if k ≤ i then s else S k, by simp, ?_, fun k o' hk ho' => ?_⟩
      · simp only
        rw [if_neg (by simp at hl; omega)]
        exact h1
      · by_cases hki : k = i
        · subst hki
          rw [ho] at ho'
          injection ho' with ho'
          subst ho'
          simp only
          rw [if_pos (Nat.le_refl _), if_neg (by omega), h0]
          exact hs
        · simp only
          rw [if_neg (by omega), if_neg (by omega)]
          exact h2 k o' (by omega) ho'
    unfold aopsD at h
    simp only [St.next_eq] at h
    split at h
    · rename_i hg
      obtain ⟨v, hp, h1, h2, h3⟩ := aopD_one h
      exact fin _ h1 (.inl ⟨.inl hg, v, hp, rfl, h2, h3⟩)
    · rename_i j want hg
      split at h
      · rename_i d hd
        split at h
        · rename_i b hb
          by_cases hbw : b = want
          · subst hbw
            have hu := upd_same hb
            have h1 := h.1 rfl
            rw [hu] at h1
            obtain ⟨v, hp, h1, h2, h3⟩ := aopD_one h1
            exact fin _ h1 (.inl ⟨.inr ⟨j, b, d, hg, hd, hb⟩, v, hp, rfl, h2, h3⟩)
          · have hb' : b = !want := by cases b <;> cases want <;> simp_all
            subst hb'
            have hu := upd_same hb
            have h1 := h.2 rfl
            rw [hu] at h1
            exact fin _ h1 (.inr ⟨⟨j, want, d, hg, hd, hb⟩, rfl⟩)
        · exact h.elim
      · exact h.elim
theorem StepA.slot {all : Array Oper} {c : Nat} {o : Oper} {s s' : St} (h : StepA E spec all c o s s') {t : Nat} (ht : o.dst ≠ some t) : s'.sl t = s.sl t := by
  have key : ∀ hp v, (s.put hp o.dst v).sl t = s.sl t := fun hp v => by
    cases hd : o.dst with
    | none => rfl
    | some d =>
      show (if t = d then v else s.sl t) = _
      rw [if_neg (fun e => ht (by rw [hd, e]))]
  rcases h with ⟨_, v, hp, rfl, _⟩ | ⟨_, rfl⟩
  · exact key _ _
  · exact key _ _
theorem put_hp (s : St) (hp : List Obj) (d : Option Tmp) (v : AV) : (s.put hp d v).hp = hp := by cases d <;> rfl
theorem put_n (s : St) (hp : List Obj) (d : Option Tmp) (v : AV) : (s.put hp d v).n = s.n := by cases d <;> rfl
theorem StepA.heap {all : Array Oper} {c : Nat} {o : Oper} {s s' : St} (h : StepA E spec all c o s s') (hc : c ≠ 2) : s'.hp = s.hp := by
  rcases h with ⟨_, v, hp, rfl, h2, _⟩ | ⟨_, rfl⟩
  · rw [put_hp]; exact h2 hc
  · rw [put_hp]
theorem StepA.n {all : Array Oper} {c : Nat} {o : Oper} {s s' : St} (h : StepA E spec all c o s s') : s'.n = s.n := by
  rcases h with ⟨_, v, hp, rfl, h2, _⟩ | ⟨_, rfl⟩ <;> rw [put_n]
end
end Go.AX
