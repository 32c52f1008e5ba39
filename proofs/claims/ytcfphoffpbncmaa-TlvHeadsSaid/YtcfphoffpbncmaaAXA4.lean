/- The abstract executor, part 4: each operation does what the executor says of it. -/
import Derived.Test.YtcfphoffpbncmaaAXA3
set_option linter.unusedVariables false
set_option linter.unusedSimpArgs false
namespace Go.AX

section
variable {P : Program} {E : Env} {w : World} {β : Bs} {st : St} {a : Act}
theorem wp_val {o : Oper} {N : Act → World → Prop} {Q : Exit → Act → World → Prop} {u : Value} {w' : World} (h : (execOp a.eval o).run P w = .ok (.value u) w') (hn : N (a.put o.dst u) w') : o.wp P a w N Q := by
  unfold Oper.wp
  rw [h]
  exact hn
theorem wp_skp {o : Oper} {N : Act → World → Prop} {Q : Exit → Act → World → Prop} {w' : World} (h : (execOp a.eval o).run P w = .ok .skip w') (hn : N (a.put o.dst undef) w') : o.wp P a w N Q := by
  unfold Oper.wp
  rw [h]
  exact hn
theorem run_v {s : Sem Value} {u : Value} {w' : World} (h : s.run P w = .ok u w') : (do pure (Next.value (← s)) : Sem Next).run P w = .ok (.value u) w' := by
  simp [h]
theorem run_u {s : Sem Unit} {w' : World} (h : s.run P w = .ok () w') : (do s; pure Next.skip : Sem Next).run P w = .ok .skip w' := by
  simp [h]
theorem repL_consts : ∀ (l : List Value), (l.all (·.oneCell')) = true → ∀ (hp : List Obj), repL (CV.rep w β hp) (l.map CV.v) l
  | [], _, _ => trivial
  | v :: l, h, hp => by
    simp only [List.all_cons, Bool.and_eq_true] at h
    exact ⟨⟨rfl, h.1⟩, repL_consts l h.2 hp⟩
theorem ofConst_rep (v : Value) (hp : List Obj) : (ofConst v).rep w β hp v := by
  unfold ofConst
  split
  · split
    · rename_i cs h
      exact ⟨cs.toList, by simp, repL_consts _ h _⟩
    · exact trivial
  · exact trivial
  · rename_i h1 h2
    refine ⟨rfl, ?_⟩
    cases v <;> first | rfl | exact absurd rfl (h1 _) | exact absurd rfl (h2 _)
theorem get_rep (h : SRep w β st a) (t : Tmp) : (st.get t).rep w β st.hp (a.tmps.getD t undef) := by
  unfold St.get
  split
  · rename_i ht
    exact h.sl t ht
  · exact trivial
theorem ev_rep (h : SRep w β st a) (x : Operand) : (st.ev x).rep w β st.hp (a.eval x) := by
  cases x with
  | tmp t => exact get_rep h t
  | const v => exact ofConst_rep v _
  | global g => exact trivial
  | func f => exact ⟨rfl, rfl⟩
theorem ev_v (h : SRep w β st a) {x : Operand} {v : Value} (he : st.ev x = .s (.c (.v v))) : a.eval x = v := by
  have := ev_rep h x
  rw [he] at this
  exact this.1
theorem ev_cv (h : SRep w β st a) {x : Operand} {y : CV} (he : st.ev x = .s (.c y)) : y.rep w β st.hp (a.eval x) := by
  have := ev_rep h x
  rw [he] at this
  exact this
theorem ownVal_one (o : Option (Nat × Nat)) (n : Nat) : (ownVal o n).oneCell' = true := by cases o <;> rfl
theorem solid_one {hp : List Obj} {x : CV} {v : Value} (hs : x.solid hp = true) (hr : x.rep w β hp v) : v.oneCell' = true := by
  unfold CV.solid at hs
  split at hs
  · rw [hr.1]; exact hs
  · obtain ⟨A, c, rfl, _⟩ := hr; rfl
  · split at hs
    · rename_i e1
      have := hr.2
      rw [e1] at this
      have this : v = _ := this
      rw [this]
      exact ownVal_one _ _
    · rename_i e1
      have := hr.2
      rw [e1] at this
      obtain ⟨A, c, rfl, _⟩ := this
      rfl
    · rename_i e1
      have := hr.2
      rw [e1] at this
      have this : v = _ := this
      rw [this]
      exact ownVal_one _ _
    · cases hs
  · split at hs
    · rename_i e1
      have := hr.2
      rw [e1] at this
      obtain ⟨g, c, _, rfl⟩ := this
      rfl
    · cases hs
  · rw [show v = _ from hr]
    exact errV_one _ _
  · cases hs
theorem solids_one {hp : List Obj} : ∀ (l : List CV) (m : List Value), (l.all (·.solid hp)) = true → repL (CV.rep w β hp) l m → ∀ u ∈ m, u.oneCell' = true
  | [], [], _, _, u, hu => by cases hu
  | x :: l, y :: m, hs, hr, u, hu => by
    simp only [List.all_cons, Bool.and_eq_true] at hs
    rcases List.mem_cons.1 hu with rfl | hu
    · exact solid_one hs.1 hr.1
    · exact solids_one l m hs.2 hr.2 u hu
  | [], _ :: _, _, hr, _, _ => hr.elim
  | _ :: _, [], _, hr, _, _ => hr.elim
/-- A value's cells. -/
theorem sv_cells {hp : List Obj} {x : SV} {v : Value} (hr : x.rep w β hp v) (hs : (x.list.all (·.solid hp)) = true) : repL (CV.rep w β hp) x.list v.cells.toList ∧ v.cells.size = x.list.length ∧ ∀ u ∈ v.cells.toList, u.oneCell' = true := by
  cases x with
  | c x =>
    simp only [SV.list, List.all_cons, List.all_nil, Bool.and_true] at hs
    have h1 := solid_one hs hr
    have hc : v.cells = #[v] := by cases v <;> first | rfl | cases h1
    rw [hc]
    exact ⟨⟨hr, trivial⟩, rfl, fun u hu => by simp at hu; subst hu; exact h1⟩
  | agg cs =>
    obtain ⟨l, rfl, hl⟩ := hr
    have hc : (Value.agg l.toArray).cells = l.toArray := rfl
    rw [hc]
    exact ⟨by simpa [SV.list] using hl, by simp [SV.list, repL.len _ _ hl], fun u hu => solids_one cs l hs hl u (by simpa using hu)⟩
theorem equalIn_bool {d : Nat} {t : TypeId} (hu : P.underlying t = some .bool) (a b : Bool) : (Op.equalIn (d + 1) t (.bool a) (.bool b)).run P w = .ok (a == b) w := by
  unfold Op.equalIn
  simp only [Sem.run_bind, run_underlying hu, Result.andThen_ok]
  rfl
theorem equalIn_nil {d : Nat} {t : TypeId} {ms : Array (String × TypeId)} (hu : P.underlying t = some (.interface ms)) : (Op.equalIn (d + 1) t .nilIface .nilIface).run P w = .ok true w := by
  unfold Op.equalIn
  simp only [Sem.run_bind, run_underlying hu, Result.andThen_ok]
  rfl
theorem equalIn_nil_l {d : Nat} {t : TypeId} {ms : Array (String × TypeId)} (hu : P.underlying t = some (.interface ms)) (u : TypeId) (v : Value) : (Op.equalIn (d + 1) t .nilIface (.iface u v)).run P w = .ok false w := by
  unfold Op.equalIn
  simp only [Sem.run_bind, run_underlying hu, Result.andThen_ok]
  rfl
theorem equalIn_nil_r {d : Nat} {t : TypeId} {ms : Array (String × TypeId)} (hu : P.underlying t = some (.interface ms)) (u : TypeId) (v : Value) : (Op.equalIn (d + 1) t (.iface u v) .nilIface).run P w = .ok false w := by
  unfold Op.equalIn
  simp only [Sem.run_bind, run_underlying hu, Result.andThen_ok]
  rfl
theorem eq_run {t : TypeId} {x y : Value} {r : Bool} (h : (Op.equalIn (9999 + 1) t x y).run P w = .ok r w) : (Op.equal t x y).run P w = .ok r w := h
theorem binV_run (hE : EnvOk P E) {op : BinOp} {ty : TypeId} {x y : Operand} {va vb : Value} {K : Value → Prop} (h : binV E op ty (isCst x || isCst y) va vb K) :
    ∃ r, K r ∧ r.oneCell' = true ∧ (do eqGuard op ty x y va vb; binOp op ty va vb : Sem Value).run P w = .ok r w := by
  unfold binV at h
  split at h
  · rename_i k a k' b
    split at h
    · refine ⟨_, h.2, rfl, ?_⟩
      simp [eqGuard, binOp, Op.shift, show ¬ b < 0 by omega]
    · refine ⟨_, h.2, rfl, ?_⟩
      simp [eqGuard, binOp, Op.shift, show ¬ b < 0 by omega]
    all_goals first
      | exact h.elim
      | (split at h
         · rename_i hk
           subst hk
           first
             | (refine ⟨_, h.2, rfl, ?_⟩; simp [eqGuard, binOp, Op.intDiv, h.1]; done)
             | (refine ⟨_, h, rfl, ?_⟩; simp [eqGuard, binOp, Op.intArith, Op.intBits, Op.intCmp]; done)
             | (refine ⟨_, h, rfl, ?_⟩; simp [eqGuard, binOp, Op.intArith, Op.intBits, Op.intCmp]; rfl)
         · exact h.elim)
  · rename_i sa sb
    split at h
    all_goals first
      | exact h.elim
      | (refine ⟨_, h, rfl, ?_⟩; simp [eqGuard, binOp, Op.stringOp])
  · split at h
    · rename_i hb
      have hu := hE.bool ty hb
      split at h
      all_goals first
        | exact h.elim
        | (refine ⟨_, h, rfl, ?_⟩; simp [eqGuard, binOp, eq_run (equalIn_bool hu _ _)])
    · exact h.elim
  · split at h
    · rename_i hb
      obtain ⟨ms, hu⟩ := hE.ifc ty hb.1
      have hc : isCst x = true ∨ isCst y = true := by
        have := hb.2
        rw [Bool.or_eq_true] at this
        exact this
      have hg : ∀ o : BinOp, (eqGuard o ty x y .nilIface .nilIface).run P w = .ok () w := fun o => by
        unfold eqGuard
        rcases hc with hc | hc
        · cases x <;> simp [isCst] at hc
          cases o <;> simp
        · cases y <;> simp [isCst] at hc
          cases o <;> simp
      split at h
      all_goals first
        | exact h.elim
        | (refine ⟨_, h, rfl, ?_⟩; rw [Sem.run_bind, hg, Result.andThen_ok]; simp [binOp, eq_run (equalIn_nil hu)])
    · exact h.elim
  · split at h
    · rename_i hb
      obtain ⟨ms, hu⟩ := hE.ifc ty hb
      split at h
      all_goals first
        | exact h.elim
        | (refine ⟨_, h, rfl, ?_⟩; simp [eqGuard, binOp, eq_run (equalIn_nil_l hu _ _)])
    · exact h.elim
  · split at h
    · rename_i hb
      obtain ⟨ms, hu⟩ := hE.ifc ty hb
      split at h
      all_goals first
        | exact h.elim
        | (refine ⟨_, h, rfl, ?_⟩; simp [eqGuard, binOp, eq_run (equalIn_nil_r hu _ _)])
    · exact h.elim
  · exact h.elim

/-! ### What is only read from then on -/
theorem froz_rep {hp : List Obj} (h : HRep w β hp) {x : CV} {v : Value} (hr : x.rep w β hp v) : Evo w β hp w β (froz hp x).2 ∧ HRep w β (froz hp x).2 ∧ (froz hp x).1.rep w β (froz hp x).2 v := by
  unfold froz
  split
  · rename_i id
    split
    · rename_i e r xs he
      obtain ⟨h1, h2, h3⟩ := h.freeze he
      have := hr.2
      rw [he] at this
      have this : v = _ := this
      rw [this]
      exact ⟨h1, h2, h3⟩
    · rename_i e r xs he
      have := hr.2
      rw [he] at this
      exact ⟨Evo.refl _ _ _, h, this⟩
    · exact ⟨Evo.refl _ _ _, h, trivial⟩
  · exact ⟨Evo.refl _ _ _, h, hr⟩
theorem frozs_rep : ∀ (hp : List Obj) (l : List CV) (m : List Value), HRep w β hp → repL (CV.rep w β hp) l m → Evo w β hp w β (frozs hp l).2 ∧ HRep w β (frozs hp l).2 ∧ repL (CV.rep w β (frozs hp l).2) (frozs hp l).1 m
  | hp, [], [], h, _ => ⟨Evo.refl _ _ _, h, trivial⟩
  | hp, x :: l, y :: m, h, hr => by
    obtain ⟨h1, h2, h3⟩ := froz_rep h hr.1
    obtain ⟨h4, h5, h6⟩ := frozs_rep (froz hp x).2 l m h2 (h1.cvs hr.2)
    exact ⟨h1.trans h4, h5, h4.cv h3, h6⟩
  | _, [], _ :: _, _, hr => hr.elim
  | _, _ :: _, [], _, hr => hr.elim
/-- How a slice is read: where its elements' cells lie. -/
def Rd (w : World) (ok : Nat → Prop) (r : Row) (xs : List r.den) (v : Value) : Prop :=
  ∃ A c, v = .slice A xs.length c ∧ xs.length ≤ c ∧ (xs = [] ∨ ∃ b o, A = some ⟨b, o, none⟩ ∧ ∃ cells e fz, w.heap[b]? = some (.cells cells e fz) ∧ ∀ (i : Nat) (x : r.den), xs[i]? = some x → r.rep w ok x ((cells.toList.drop (o + i * r.size)).take r.size))
theorem slRep.rd {ok : Nat → Prop} {r : Row} {xs : List r.den} {v : Value} (h : slRep w ok r xs v) : Rd w ok r xs v := by
  obtain ⟨A, c, hv, hl, hx⟩ := h
  exact ⟨A, c, hv, hl, hx.imp id fun ⟨b, o, hA, _, h⟩ => ⟨b, o, hA, h⟩⟩
theorem rowObj.rd {ok : Nat → Prop} {o : Option (Nat × Nat)} {e : TypeId} {r : Row} {xs : List r.den} (h : rowObj w ok o e r xs) : Rd w ok r xs (ownVal o xs.length) := by
  rcases h with ⟨rfl, rfl⟩ | ⟨g, cap, cells, rfl, hg, hs, hl, hm, hall⟩
  · exact ⟨none, 0, rfl, Nat.le_refl _, .inl rfl⟩
  · exact ⟨some ⟨g, 0, none⟩, cap, rfl, hl, .inr ⟨g, 0, rfl, cells, e, (0, 0), hg, fun i x hi => by rw [Nat.zero_add]; exact hall i x hi⟩⟩
theorem own_row {hp : List Obj} (h : HRep w β hp) {id : Nat} {v : Value} (hr : (CV.own id).rep w β hp v) {e : TypeId} {r : Row} {xs : List r.den} (he : hget hp id = .row e r xs) : v = ownVal (β id) xs.length ∧ rowObj w (imm w β hp) (β id) e r xs := by
  have h1 := hr.2
  have h2 := h.obj id hr.1
  unfold ObjRep at h2
  rw [he] at h1 h2
  exact ⟨h1, h2⟩
theorem sliceOf_rd {hp : List Obj} (h : HRep w β hp) {y : CV} {v : Value} (hr : y.rep w β hp v) {e : TypeId} {r : Row} {xs : List r.den} (hs : sliceOf hp y = some (e, ⟨r, xs⟩)) : Rd w (imm w β hp) r xs v := by
  unfold sliceOf at hs
  split at hs
  · injection hs with hs
    cases hs
    exact slRep.rd hr
  · split at hs
    · rename_i he
      injection hs with hs
      cases hs
      obtain ⟨h1, h2⟩ := own_row h hr he
      rw [h1]
      exact h2.rd
    · rename_i he
      injection hs with hs
      cases hs
      have := hr.2
      rw [he] at this
      exact slRep.rd this
    · cases hs
  · injection hs with hs
    cases hs
    obtain ⟨A, c, hv, hl, hx⟩ := (hr : bsRep _ _ _ _ _ _)
    exact ⟨A, c, hv, hl, hx.imp id fun ⟨b, o, hA, _, h⟩ => ⟨b, o, hA, h⟩⟩
  · cases hs
/-- A list's part of so many cells. -/
theorem seg_cell {cells : Array Value} {e : TypeId} {fz : Nat × Nat} {b o n : Nat} (hb : w.heap[b]? = some (.cells cells e fz)) (j : Nat) (u : Value) (hu : ((cells.toList.drop o).take n)[j]? = some u) : w.cell? ⟨b, o + j, none⟩ = some u := by
  rw [List.getElem?_take] at hu
  split at hu
  · rw [List.getElem?_drop] at hu
    simp only [World.cell?, hb]
    simpa using hu
  · cases hu
theorem errOf_spec (hE : EnvOk P E) {hp : List Obj} {x : CV} {v : Value} {a : Int} {p : Prop} (h : errOf E x = some (a, p)) (hp' : p) (hr : x.rep w β hp v) : (a = 0 ∧ v = .nilIface) ∨ (a ≠ 0 ∧ ∃ t, E.err t = true ∧ v = .iface t (.int .i64 a)) := by
  unfold errOf at h
  split at h
  · split at h
    · rename_i t c he
      injection h with h
      injection h with h1 h2
      subst h1
      have hr : v = errV t c := hr
      unfold errV at hr
      split at hr
      · rename_i hc; exact .inl ⟨hc, hr⟩
      · rename_i hc; exact .inr ⟨hc, t, he, hr⟩
    · cases h
  · injection h with h
    injection h with h1 h2
    exact .inl ⟨h1.symm, hr.1⟩
  · split at h
    · rename_i t n he
      injection h with h
      injection h with h1 h2
      subst h1
      subst h2
      exact .inr ⟨hp', t, he, hr.1⟩
    · cases h
  · cases h
theorem equal_err (hE : EnvOk P E) (h1t : ∀ t t', E.err t = true → E.err t' = true → t = t') {ty : TypeId} (hi : E.ifc ty = true) {a b : Int} {va vb : Value} (ha : (a = 0 ∧ va = .nilIface) ∨ (a ≠ 0 ∧ ∃ t, E.err t = true ∧ va = .iface t (.int .i64 a))) (hb : (b = 0 ∧ vb = .nilIface) ∨ (b ≠ 0 ∧ ∃ t, E.err t = true ∧ vb = .iface t (.int .i64 b))) :
    (Op.equal ty va vb).run P w = .ok (decide (a = b)) w := by
  obtain ⟨ms, hu⟩ := hE.ifc ty hi
  rcases ha with ⟨rfl, rfl⟩ | ⟨ha, t, ht, rfl⟩
  · rcases hb with ⟨rfl, rfl⟩ | ⟨hb, t', ht', rfl⟩
    · exact eq_run (equalIn_nil hu)
    · rw [eq_run (equalIn_nil_l hu _ _), decide_eq_false (fun e => hb e.symm)]
  · rcases hb with ⟨rfl, rfl⟩ | ⟨hb, t', ht', rfl⟩
    · rw [eq_run (equalIn_nil_r hu _ _), decide_eq_false ha]
    · obtain rfl := h1t _ _ ht ht'
      obtain ⟨hut, i, hin, hc⟩ := hE.err t ht
      refine eq_run ?_
      unfold Op.equalIn
      simp only [Sem.run_bind, run_underlying hu, Result.andThen_ok]
      simp [typeInfo, hin, hc]
      unfold Op.equalIn
      simp only [Sem.run_bind, run_underlying hut, Result.andThen_ok]
      simp
      rfl
theorem binE_run (hE : EnvOk P E) (hH : HRep w β st.hp) {op : BinOp} {ty : TypeId} {x y : Operand} {cx cy : CV} {va vb : Value} (hx : cx.rep w β st.hp va) (hy : cy.rep w β st.hp vb) {K : CV → Prop} (h : binE E op ty (isCst x || isCst y) st.hp cx cy K) :
    ∃ r v, K r ∧ r.rep w β st.hp v ∧ (do eqGuard op ty x y va vb; binOp op ty va vb : Sem Value).run P w = .ok v w := by
  unfold binE at h
  split at h
  · rename_i a p b q ha hb
    obtain ⟨⟨hp, hq⟩, hi, hc, h⟩ := h
    have h1 := errOf_spec hE ha hp hx
    have h2 := errOf_spec hE hb hq hy
    have he := equal_err hE hE.err1 (w := w) hi h1 h2
    have hg : ∀ o : BinOp, (eqGuard o ty x y va vb).run P w = .ok () w := fun o => by
      unfold eqGuard
      rcases h1 with ⟨rfl, rfl⟩ | ⟨_, t, _, rfl⟩
      · rcases h2 with ⟨rfl, rfl⟩ | ⟨_, t, _, rfl⟩
        · rcases hc with hc | hc | hc
          · rw [Bool.or_eq_true] at hc
            rcases hc with hc | hc
            · cases x <;> simp [isCst] at hc
              cases o <;> simp
            · cases y <;> simp [isCst] at hc
              cases o <;> simp
          · exact absurd rfl hc
          · exact absurd rfl hc
        · cases o <;> simp
      · rcases h2 with ⟨rfl, rfl⟩ | ⟨_, t, _, rfl⟩ <;> cases o <;> simp
    have hb : ∀ o : BinOp, o = .eql ∨ o = .neq → (binOp o ty va vb).run P w = .ok (.bool (if o = .eql then decide (a = b) else !decide (a = b))) w := fun o ho => by
      rcases h1 with ⟨rfl, rfl⟩ | ⟨_, t, _, rfl⟩ <;> rcases h2 with ⟨rfl, rfl⟩ | ⟨_, t, _, rfl⟩ <;> rcases ho with rfl | rfl <;> simp [binOp, he]
    split at h
    · refine ⟨_, _, h, ⟨rfl, rfl⟩, ?_⟩
      rw [Sem.run_bind, hg, Result.andThen_ok, hb _ (.inl rfl)]
      rfl
    · refine ⟨_, _, h, ⟨rfl, rfl⟩, ?_⟩
      rw [Sem.run_bind, hg, Result.andThen_ok, hb _ (.inr rfl)]
      rfl
    · exact h.elim
  · split at h
    · rename_i id off hne
      split at h
      · rename_i hpt
        obtain ⟨e, hu⟩ := hE.ptr ty hpt
        split at h
        · rename_i hg
          have h2 := hx.2
          rw [hg] at h2
          obtain ⟨g, c, hb, rfl⟩ := h2
          obtain ⟨rfl, _⟩ := hy
          have he : (Op.equal ty (.pointer (some ⟨g, off, none⟩)) (.pointer none)).run P w = .ok false w := by
            refine eq_run ?_
            unfold Op.equalIn
            simp only [Sem.run_bind, run_underlying hu, Result.andThen_ok]
            rfl
          split at h
          · exact ⟨_, _, h, ⟨rfl, rfl⟩, by simp [eqGuard, binOp, he]⟩
          · exact ⟨_, _, h, ⟨rfl, rfl⟩, by simp [eqGuard, binOp, he]⟩
          · exact h.elim
        · exact h.elim
      · exact h.elim
    · split at h
      · rename_i q e r xs ht hs
        obtain ⟨e', r', b'⟩ := q
        obtain ⟨hu, _⟩ := hE.slice ty e' r' b' ht
        obtain ⟨A, c, rfl, hl, hxs⟩ := sliceOf_rd hH hx hs
        obtain ⟨rfl, _⟩ := hy
        have he : ∃ bb, (Op.equal ty (.slice A xs.length c) (.slice none 0 0)).run P w = .ok bb w ∧ (bb = true → xs = []) := by
          cases A with
          | none =>
            refine ⟨true, eq_run ?_, fun _ => ?_⟩
            · unfold Op.equalIn
              simp only [Sem.run_bind, run_underlying hu, Result.andThen_ok]
              rfl
            · rcases hxs with h | ⟨b, o, h, _⟩
              · exact h
              · cases h
          | some ad =>
            refine ⟨false, eq_run ?_, fun h => by cases h⟩
            unfold Op.equalIn
            simp only [Sem.run_bind, run_underlying hu, Result.andThen_ok]
            rfl
        obtain ⟨bb, he, hbb⟩ := he
        split at h
        · refine ⟨_, .bool bb, h, ⟨bb, rfl, hbb, fun _ => trivial⟩, by simp [eqGuard, binOp, he]⟩
        · refine ⟨_, .bool (!bb), h, ⟨!bb, rfl, fun _ => trivial, fun h => hbb (by simpa using h)⟩, by simp [eqGuard, binOp, he]⟩
        · exact h.elim
      · exact h.elim
    · exact h.elim

end
end Go.AX
