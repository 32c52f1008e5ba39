/- The abstract executor, part 9: what is claimed of a call, and calls. -/
import Derived.Test.YtcfphoffpbncmaaAXA8
set_option linter.unusedVariables false
set_option linter.unusedSimpArgs false
namespace Go.AX
open Go.RowKit

/-- Trees in memory; os: the blocks of the rows that may be appended to. -/
def T0.con (w : World) (ok : Nat → Prop) : T0 → Value → List (Option (Nat × Nat)) → Prop
  | .v x, u, os => (u = x ∧ u.oneCell' = true) ∧ os = []
  | .sl _ r xs, u, os => slRep w ok r xs u ∧ os = []
  | .own e r xs, u, os => ∃ o, os = [o] ∧ u = ownVal o xs.length ∧ rowObj w ok o e r xs
  | .rptr r xs i off, u, os => ((0 ≤ i ∧ i < xs.length) ∧ ∃ b o, u = .pointer (some ⟨b, o + i.toNat * r.size + off, none⟩) ∧ rowAt w ok r b o xs) ∧ os = []
  | .clo f r x, u, os => (∃ b o, u = .func (.func f) #[] #[.pointer (some ⟨b, o, none⟩)] ∧ rowAt w ok r b o [x]) ∧ os = []
def T0.cons (w : World) (ok : Nat → Prop) : List T0 → List Value → List (Option (Nat × Nat)) → Prop
  | [], [], os => os = []
  | t :: l, u :: m, os => ∃ o1 o2, os = o1 ++ o2 ∧ t.con w ok u o1 ∧ T0.cons w ok l m o2
  | _, _, _ => False
def TV.con (w : World) (ok : Nat → Prop) : TV → Value → List (Option (Nat × Nat)) → Prop
  | .c t, u, os => t.con w ok u os
  | .agg ts, u, os => ∃ l : List Value, u = .agg l.toArray ∧ T0.cons w ok ts l os
def TV.cons (w : World) (ok : Nat → Prop) : List TV → List Value → List (Option (Nat × Nat)) → Prop
  | [], [], os => os = []
  | t :: l, u :: m, os => ∃ o1 o2, os = o1 ++ o2 ∧ t.con w ok u o1 ∧ TV.cons w ok l m o2
  | _, _, _ => False
def Apart (os : List (Option (Nat × Nat))) : Prop := ∀ (i j g c c' : Nat), os[i]? = some (some (g, c)) → os[j]? = some (some (g, c')) → i = j
def retVal : List Value → Value
  | [u] => u
  | l => .tuple l.toArray
/-- What a call hands back: trees in new memory, or that lead to memory that it was shown. -/
def ResRep (w : World) (ok : Nat → Prop) (w' : World) (res : List TV) (us : List Value) : Prop :=
  ∃ os, TV.cons w' (fun b => (ok b ∨ w.heap.size ≤ b) ∧ b < w'.heap.size ∧ ∀ c, some (b, c) ∉ os) res us os ∧ Apart os ∧ ∀ g c, some (g, c) ∈ os → w.heap.size ≤ g
def Enters (P : Program) (f : FuncId) : Prop := ∀ args w, (callFunc f args).run P w = .ok (.enter f args) w
def CallP (P : Program) (f : FuncId) (args : Array Value) (w : World) (T : Value → World → Prop) : Prop :=
  (Enters P f ∧ Calls P f args w fun e w' => ∃ v, e = .returned v ∧ T v w') ∨ ∃ v w', (callFunc f args).run P w = .ok (.value v) w' ∧ T v w'
/-- The function does what the spec says. ok: the memory that it may read. -/
def SpecOk (P : Program) (f : FuncId) (S : PSpec) : Prop :=
  ∀ (args : List TV) (vs : List Value) (w : World) (ok : Nat → Prop), (∀ b, ok b → b < w.heap.size) → TV.cons w ok args vs [] → (S args).1 →
    CallP P f vs.toArray w fun v w' => ∃ us, v = retVal us ∧ ResRep w ok w' (S args).2 us ∧ Below w.heap.size w w'

theorem T0.con_mono {w w' : World} {ok ok' : Nat → Prop} (h : Stays w w' ok ok') : ∀ {t : T0} {u : Value} {os : List (Option (Nat × Nat))}, (∀ g c, some (g, c) ∈ os → w'.heap[g]? = w.heap[g]?) → t.con w ok u os → t.con w' ok' u os
  | .v x, u, os, _, hr => hr
  | .sl e r xs, u, os, _, hr => ⟨slRep.mono h hr.1, hr.2⟩
  | .own e r xs, u, os, hb, hr => by
    obtain ⟨o, rfl, hu, hro⟩ := hr
    exact ⟨o, rfl, hu, hro.mono h (fun g c he => hb g c (by rw [he]; simp))⟩
  | .rptr r xs i off, u, os, _, hr => let ⟨⟨h0, b, o, hv, hrow⟩, ho⟩ := hr; ⟨⟨h0, b, o, hv, hrow.mono h⟩, ho⟩
  | .clo f r x, u, os, _, hr => let ⟨⟨b, o, hv, hrow⟩, ho⟩ := hr; ⟨⟨b, o, hv, hrow.mono h⟩, ho⟩
theorem T0.cons_mono {w w' : World} {ok ok' : Nat → Prop} (h : Stays w w' ok ok') : ∀ (l : List T0) (m : List Value) (os : List (Option (Nat × Nat))), (∀ g c, some (g, c) ∈ os → w'.heap[g]? = w.heap[g]?) → T0.cons w ok l m os → T0.cons w' ok' l m os
  | [], [], _, _, hr => hr
  | t :: l, u :: m, os, hb, hr => by
    obtain ⟨o1, o2, rfl, h1, h2⟩ := hr
    exact ⟨o1, o2, rfl, T0.con_mono h (fun g c hm => hb g c (by simp [hm])) h1, T0.cons_mono h l m o2 (fun g c hm => hb g c (by simp [hm])) h2⟩
  | [], _ :: _, _, _, hr => hr.elim
  | _ :: _, [], _, _, hr => hr.elim
theorem TV.con_mono {w w' : World} {ok ok' : Nat → Prop} (h : Stays w w' ok ok') : ∀ {t : TV} {u : Value} {os : List (Option (Nat × Nat))}, (∀ g c, some (g, c) ∈ os → w'.heap[g]? = w.heap[g]?) → t.con w ok u os → t.con w' ok' u os
  | .c t, u, os, hb, hr => T0.con_mono h hb hr
  | .agg ts, u, os, hb, ⟨l, hu, hr⟩ => ⟨l, hu, T0.cons_mono h ts l os hb hr⟩
theorem TV.cons_mono {w w' : World} {ok ok' : Nat → Prop} (h : Stays w w' ok ok') : ∀ (l : List TV) (m : List Value) (os : List (Option (Nat × Nat))), (∀ g c, some (g, c) ∈ os → w'.heap[g]? = w.heap[g]?) → TV.cons w ok l m os → TV.cons w' ok' l m os
  | [], [], _, _, hr => hr
  | t :: l, u :: m, os, hb, hr => by
    obtain ⟨o1, o2, rfl, h1, h2⟩ := hr
    exact ⟨o1, o2, rfl, TV.con_mono h (fun g c hm => hb g c (by simp [hm])) h1, TV.cons_mono h l m o2 (fun g c hm => hb g c (by simp [hm])) h2⟩
  | [], _ :: _, _, _, hr => hr.elim
  | _ :: _, [], _, _, hr => hr.elim
section
variable {P : Program} {E : Env} {w : World} {β : Bs} {st : St} {a : Act}
theorem asArg0_con {hp : List Obj} {x : CV} {t : T0} {v : Value} (h : asArg0 x = some t) (hr : x.rep w β hp v) : t.con w (imm w β hp) v [] := by
  unfold asArg0 at h
  split at h
  · split at h
    · injection h with h
      subst h
      exact ⟨hr, rfl⟩
    · cases h
  · injection h with h
    subst h
    exact ⟨hr, rfl⟩
  · injection h with h
    subst h
    exact ⟨hr, rfl⟩
  · injection h with h
    subst h
    exact ⟨hr, rfl⟩
  · cases h
theorem asArgs0_con {hp : List Obj} : ∀ (l : List CV) (ts : List T0) (m : List Value), asArgs0 l = some ts → repL (CV.rep w β hp) l m → T0.cons w (imm w β hp) ts m []
  | [], ts, [], h, _ => by injection h with h; subst h; exact rfl
  | x :: l, ts, u :: m, h, hr => by
    unfold asArgs0 at h
    split at h
    · rename_i a b ha hb
      injection h with h
      subst h
      exact ⟨[], [], rfl, asArg0_con ha hr.1, asArgs0_con l b m hb hr.2⟩
    · cases h
  | [], _, _ :: _, _, hr => hr.elim
  | _ :: _, _, [], _, hr => hr.elim
theorem acargs_run (hS : SRep w β st a) : ∀ (l : List Operand) (hp : List Obj), HRep w β hp → Evo w β st.hp w β hp → ∀ {K : List TV → List Obj → Prop}, acargs st hp l K →
    ∃ ts hp', K ts hp' ∧ HRep w β hp' ∧ Evo w β hp w β hp' ∧ TV.cons w (imm w β hp') ts (l.map a.eval) []
  | [], hp, hH, hE, K, h => ⟨[], hp, h, hH, Evo.refl _ _ _, rfl⟩
  | x :: l, hp, hH, hE, K, h => by
    unfold acargs at h
    have hr := hE.av (ev_rep hS x)
    split at h
    · rename_i y hev
      rw [hev] at hr
      obtain ⟨f1, f2, f3⟩ := froz_rep hH hr
      dsimp only at h
      split at h
      · rename_i t ht
        obtain ⟨ts, hp', k1, k2, k3, k4⟩ := acargs_run hS l _ f2 (hE.trans f1) (K := fun m hp => K (.c t :: m) hp) h
        exact ⟨_, hp', k1, k2, f1.trans k3, [], [], rfl, T0.con_mono k3.stays (fun _ _ h => by cases h) (asArg0_con ht f3), k4⟩
      · exact h.elim
    · rename_i ys hev
      rw [hev] at hr
      obtain ⟨m, hv, hm⟩ := hr
      obtain ⟨f1, f2, f3⟩ := frozs_rep hp ys m hH hm
      dsimp only at h
      split at h
      · rename_i t ht
        obtain ⟨ts, hp', k1, k2, k3, k4⟩ := acargs_run hS l _ f2 (hE.trans f1) (K := fun m hp => K (.agg t :: m) hp) h
        exact ⟨_, hp', k1, k2, f1.trans k3, [], [], rfl, ⟨m, hv, T0.cons_mono k3.stays _ _ _ (fun _ _ h => by cases h) (asArgs0_con _ _ _ ht f3)⟩, k4⟩
      · exact h.elim
    · exact h.elim

/-! ### Trees made objects -/
def T0.objs : T0 → List Obj
  | .own e r xs => [.row e r xs]
  | _ => []
def T0.objsL (ts : List T0) : List Obj := (ts.map T0.objs).flatten
def TV.objs : TV → List Obj
  | .c t => t.objs
  | .agg ts => T0.objsL ts
def TV.objsL (ts : List TV) : List Obj := (ts.map TV.objs).flatten
theorem T0.inst_hp (hp : List Obj) (t : T0) : (t.inst hp).2 = hp ++ t.objs := by cases t <;> simp [T0.inst, T0.objs]
theorem T0.insts_hp : ∀ (hp : List Obj) (l : List T0), (T0.insts hp l).2 = hp ++ T0.objsL l
  | hp, [] => by simp [T0.insts, T0.objsL]
  | hp, t :: l => by
    show (T0.insts (t.inst hp).2 l).2 = _
    rw [T0.insts_hp, T0.inst_hp]
    simp [T0.objsL]
theorem TV.inst_hp (hp : List Obj) (t : TV) : (t.inst hp).2 = hp ++ t.objs := by
  cases t with
  | c t => exact T0.inst_hp hp t
  | agg ts => exact T0.insts_hp hp ts
theorem TV.insts_hp : ∀ (hp : List Obj) (l : List TV), (TV.insts hp l).2 = hp ++ TV.objsL l
  | hp, [] => by simp [TV.insts, TV.objsL]
  | hp, t :: l => by
    show (TV.insts (t.inst hp).2 l).2 = _
    rw [TV.insts_hp, TV.inst_hp]
    simp [TV.objsL]
/-- Objects and the blocks they lie in, told side by side. -/
def ObjsAt (w : World) (ok : Nat → Prop) : List Obj → List (Option (Nat × Nat)) → Prop := repL fun ob o => ∃ e r xs, ob = .row e r xs ∧ rowObj w ok o e r xs
theorem T0.con_objs {ok : Nat → Prop} {t : T0} {v : Value} {os : List (Option (Nat × Nat))} (h : t.con w ok v os) : ObjsAt w ok t.objs os := by
  cases t with
  | v x => rw [h.2]; exact trivial
  | sl e r xs => rw [h.2]; exact trivial
  | own e r xs => obtain ⟨o, rfl, _, hr⟩ := h; exact ⟨⟨e, r, xs, rfl, hr⟩, trivial⟩
  | rptr r xs i off => rw [h.2]; exact trivial
  | clo f r x => rw [h.2]; exact trivial
theorem T0.cons_objs {ok : Nat → Prop} : ∀ (l : List T0) (m : List Value) (os : List (Option (Nat × Nat))), T0.cons w ok l m os → ObjsAt w ok (T0.objsL l) os
  | [], [], _, h => by rw [h]; exact trivial
  | t :: l, u :: m, _, ⟨o1, o2, rfl, h1, h2⟩ => by
    show ObjsAt w ok (t.objs ++ T0.objsL l) _
    exact repL.append _ _ _ _ (T0.con_objs h1) (T0.cons_objs l m o2 h2)
  | [], _ :: _, _, h => h.elim
  | _ :: _, [], _, h => h.elim
theorem TV.con_objs {ok : Nat → Prop} {t : TV} {v : Value} {os : List (Option (Nat × Nat))} (h : t.con w ok v os) : ObjsAt w ok t.objs os := by
  cases t with
  | c t => exact T0.con_objs h
  | agg ts => obtain ⟨l, _, hl⟩ := h; exact T0.cons_objs _ _ _ hl
theorem TV.cons_objs {ok : Nat → Prop} : ∀ (l : List TV) (m : List Value) (os : List (Option (Nat × Nat))), TV.cons w ok l m os → ObjsAt w ok (TV.objsL l) os
  | [], [], _, h => by rw [h]; exact trivial
  | t :: l, u :: m, _, ⟨o1, o2, rfl, h1, h2⟩ => by
    show ObjsAt w ok (t.objs ++ TV.objsL l) _
    exact repL.append _ _ _ _ (TV.con_objs h1) (TV.cons_objs l m o2 h2)
  | [], _ :: _, _, h => h.elim
  | _ :: _, [], _, h => h.elim

theorem hget_news (hp l : List Obj) (id : Nat) (h : hp.length ≤ id) : hget (hp ++ l) id = hget l (id - hp.length) := by
  have := hget_append_ge hp l (id - hp.length)
  rwa [Nat.add_sub_cancel' h] at this
theorem objs_get {ok : Nat → Prop} : ∀ (l : List Obj) (os : List (Option (Nat × Nat))), ObjsAt w ok l os → ∀ k, k < l.length → ∃ e r xs, hget l k = .row e r xs ∧ rowObj w ok (os.getD k none) e r xs
  | o :: l, b :: os, h, 0, _ => by
    obtain ⟨e, r, xs, rfl, hr⟩ := h.1
    exact ⟨e, r, xs, rfl, hr⟩
  | o :: l, b :: os, h, k + 1, hk => objs_get l os h.2 k (by simpa using hk)
  | [], [], _, k, hk => by simp at hk
  | [], _ :: _, h, _, _ => h.elim
  | _ :: _, [], h, _, _ => h.elim
def bext (β : Bs) (n : Nat) (os : List (Option (Nat × Nat))) : Bs := ⟨fun id => if id < n then β id else os.getD (id - n) none, β.out⟩
/-- What a call handed back takes its place in the state. -/
theorem HRep.news {hp : List Obj} (hH : HRep w β hp) {w' : World} (hB : Below w.heap.size w w') {objs : List Obj} {os : List (Option (Nat × Nat))}
    (ho : ObjsAt w' (fun b => (imm w β hp b ∨ w.heap.size ≤ b) ∧ b < w'.heap.size ∧ ∀ c, some (b, c) ∉ os) objs os) (ha : Apart os) (hf : ∀ g c, some (g, c) ∈ os → w.heap.size ≤ g) :
    HRep w' (bext β hp.length os) (hp ++ objs) ∧ Evo w β hp w' (bext β hp.length os) (hp ++ objs) ∧
      Stays w' w' (fun b => (imm w β hp b ∨ w.heap.size ≤ b) ∧ b < w'.heap.size ∧ ∀ c, some (b, c) ∉ os) (imm w' (bext β hp.length os) (hp ++ objs)) := by
  have hlo : objs.length = os.length := repL.len _ _ ho
  have hbn : ∀ id, hp.length ≤ id → (bext β hp.length os) id = os.getD (id - hp.length) none := fun id h => by
    show (if id < hp.length then β id else _) = _
    rw [if_neg (by omega)]
  have hbo : ∀ id, id < hp.length → (bext β hp.length os) id = β id := fun id h => by
    show (if id < hp.length then β id else _) = _
    rw [if_pos h]
  have hmem : ∀ k g c, os.getD k none = some (g, c) → os[k]? = some (some (g, c)) ∧ some (g, c) ∈ os := fun k g c h => by
    have h1 : os[k]? = some (some (g, c)) := by
      rw [List.getD_eq_getElem?_getD] at h
      cases hq : os[k]? with
      | none => rw [hq] at h; cases h
      | some x => rw [hq] at h; simp at h; rw [h]
    exact ⟨h1, List.mem_of_getElem? h1⟩
  obtain ⟨e1, e2⟩ := hH.step (w' := w') (β' := bext β hp.length os) (hp' := hp ++ objs) (fun id => hp.length ≤ id) hB.os hB.tape hB.output hB.size (by simp) rfl
    (fun b hb _ => hB.block b hb)
    (fun id hn hl => by
      have hlt : id < hp.length := by omega
      refine ⟨hget_append_lt _ _ _ hlt, hbo id hlt, fun g c hb => hB.block g (hH.lt ?_ hb)⟩
      unfold live at hl ⊢
      rwa [hget_append_lt _ _ _ hlt] at hl)
    (fun id g c hn hl hb => .inl (by rw [hbn id hn] at hb; exact hf g c (hmem _ g c hb).2))
    (fun id id' g c c' hn hn' _ _ hb hb' => by
      rw [hbn id hn] at hb
      rw [hbn id' hn'] at hb'
      have := ha _ _ g c c' (hmem _ g c hb).1 (hmem _ g c' hb').1
      omega)
    (fun id hid => .inl ⟨hget_append_lt _ _ _ hid, hbo id hid⟩)
  have hst : Stays w' w' (fun b => (imm w β hp b ∨ w.heap.size ≤ b) ∧ b < w'.heap.size ∧ ∀ c, some (b, c) ∉ os) (imm w' (bext β hp.length os) (hp ++ objs)) := by
    rintro b ⟨h1, h2, h3⟩
    refine ⟨⟨h2, ?_, ?_⟩, fun c e fz hc => ⟨fz, hc⟩⟩
    · rintro ⟨id, c, hl, hb⟩
      by_cases hid : id < hp.length
      · rw [hbo id hid] at hb
        have hl' : live hp id := by
          unfold live at hl ⊢
          rwa [hget_append_lt _ _ _ hid] at hl
        rcases h1 with h1 | h1
        · exact h1.2.1 ⟨id, c, hl', hb⟩
        · have := hH.lt hl' hb
          omega
      · rw [hbn id (by omega)] at hb
        exact h3 c (hmem _ b c hb).2
    · intro ho'
      rcases h1 with h1 | h1
      · exact h1.2.2 ho'
      · have := hH.old b ho'
        omega
  refine ⟨e2 fun id hn hid => ?_, e1, hst⟩
  unfold ObjRep
  rw [hget_news hp objs id hn]
  obtain ⟨e, r, xs, h1, h2⟩ := objs_get objs os ho (id - hp.length) (by simp at hid; omega)
  rw [h1, hbn id hn]
  exact h2.mono hst (fun _ _ _ => rfl)
end
end Go.AX
