/- What name.Alike, name.Within, charterref09.has answer. -/
import Derived.Test.YtcfphoffpbncmaaS1G
set_option linter.unusedVariables false
set_option linter.unusedSimpArgs false
namespace Go.AX
open Go.Proofs
set_option maxRecDepth 100000
set_option maxHeartbeats 4000000
structure AllUpto (p : Nat → Prop) (k : Nat) : Prop where
  all : ∀ i, i < k → p i
theorem AllUpto.zero {p : Nat → Prop} : AllUpto p 0 := ⟨fun i h => absurd h (Nat.not_lt_zero i)⟩
theorem AllUpto.succ {p : Nat → Prop} {k : Nat} (h : AllUpto p k) (hk : p k) : AllUpto p (k + 1) := ⟨fun i hi => by
  by_cases e : i = k
  · subst e; exact hk
  · exact h.all i (by omega)⟩
theorem txtEq_comm (a b : List Int) : txtEq a b = txtEq b a := by
  unfold txtEq
  rw [Bool.eq_iff_iff]
  simp only [beq_iff_eq]
  exact eq_comm
theorem like_comm (x y : Att) : like x y = like y x := by
  unfold like
  rw [txtEq_comm]
  congr 1
  exact decide_eq_decide.2 eq_comm
def SHas : PSpec
  | [.c (.sl _ (.cons (.sl 111 (.one (.int .u32))) (.cons (.int .u8) (.one (.sl 5 (.one (.int .u8)))))) vs), .agg [.sl 111 (.one (.int .u32)) t, .v (.int .u8 m), .sl 5 (.one (.int .u8)) v]] =>
    (VsOk vs ∧ AttOk (t, m, v), [.c (.v (.bool (vs.any (like (t, m, v)))))])
  | _ => (False, [])
theorem any_false {x : Att} {vs : List Att} (h : ∀ i, i < vs.length → like (vs.getD i ([], 0, [])) x = false) : vs.any (like x) = false := by
  rw [List.any_eq_false]
  intro y hy
  obtain ⟨i, hi⟩ := List.getElem?_of_mem hy
  have := h i (List.getElem?_eq_some_iff.1 hi).1
  rw [List.getD_eq_getElem?_getD, hi] at this
  rw [like_comm]
  simpa using this
theorem any_true {x : Att} {vs : List Att} {k : Nat} (hk : k < vs.length) (h : like (vs.getD k ([], 0, [])) x = true) : vs.any (like x) = true := by
  rw [List.getD_eq_getElem?_getD, List.getElem?_eq_getElem hk] at h
  exact List.any_eq_true.2 ⟨_, List.getElem_mem hk, by rw [like_comm]; exact h⟩
theorem like_parts {x y : Att} (h1 : x.1 = y.1) : like x y = txtEq (plain x.2.2) (plain y.2.2) := by
  unfold like
  rw [h1]
  simp
theorem like_not {x y : Att} (h1 : ¬ x.1 = y.1) : like x y = false := by
  unfold like
  simp [h1]
def hasLoop (e : TypeId) (vs : List Att) (x : Att) : Sch where
  ι := Nat
  pre k := k ≤ vs.length ∧ AllUpto (fun i => like (vs.getD i ([], 0, [])) x = false) k
  sl k := [(0, .c (.sl e rA vs)), (3, .c (.rptr rA [x] 0 0)), (5, .c (.v (.int .i64 k)))]
  μ k := vs.length - k
def hasCfg (e : TypeId) (vs : List Att) (x : Att) : Cfg where
  spec := fun | 94 => some SEqU | 17 => some SPlain | _ => none
  loop := fun | 2 => some (hasLoop e vs x) | _ => none
theorem has_vc (e : TypeId) (vs : List Att) (t : List Int) (m : Int) (v : List Int) (hA : VsOk vs) (hB : AttOk (t, m, v)) :
    match Try.f58.body with
    | some c => awp EV (hasCfg e vs (t, m, v)) c (instAll (argSt 0 0 [.c (.sl e rA vs), .agg [.sl 111 rU t, .v (.int .u8 m), .sl 5 rB v]]) (emptySt Try.f58.ntmps)) (retK EV Try.f58.results.toList [.c (.v (.bool (vs.any (like (t, m, v)))))])
    | none => False := by
  unfold Try.f58
  show awp _ _ _ _ _
  have hA1 := hA.len
  repeat' first
    | refine And.intro ?_ ?_
    | refine fun (k : Nat) (hk : k ≤ vs.length ∧ AllUpto (fun i => like (vs.getD i ([], 0, [])) (t, m, v) = false) k) => ?_
    | (refine fun h => ?_; first | exact ff h | exact tf h | skip)
    | refine Exists.intro (k + 1 : Nat) ?_
    | refine Exists.intro (0 : Nat) ?_
  all_goals try simp only [decide_eq_true_eq, decide_eq_false_iff_not, Bool.not_true, Bool.not_false, Bool.not_eq_true', Bool.not_eq_false', Int.toNat_natCast] at *
  all_goals first
    | exact trivial
    | omega
    | rfl
    | (dsimp only [hasLoop]; omega)
    | (show (_ : Int) = _; rw [wrap_i64 (by omega) (by omega)]; omega)
    | exact (hA.get (by omega) _).1
    | exact (hA.get (by omega) _).2
    | exact hB.1
    | exact hB.2
    | (show (_ : Bool) = _; exact (any_true (k := k) (by omega) ((like_parts (by assumption)).trans (by assumption))).symm)
    | (show (_ : Bool) = _; exact (any_false fun i hi => hk.2.all i (by omega)).symm)
    | exact .zero
    | exact hk.2.succ ((like_parts (by assumption)).trans (by assumption))
    | exact hk.2.succ (like_not (by assumption))
theorem ok_Has : SpecOk Try.prog 58 SHas := spec_of EV_ok (fn := Try.f58) (by kernel_rfl) (by kernel_rfl) fun args hs => by
  unfold SHas at hs ⊢
  split at hs
  · refine ⟨Nat.le_of_ble_eq_true rfl, _, ?_, has_vc _ _ _ _ _ hs.1 hs.2⟩
    intro f S h
    unfold hasCfg at h
    dsimp only at h
    split at h
    · cases h; exact ok_REqU
    · cases h; exact ok_RPlain
    · cases h
  · exact hs.elim
/-! ### Names -/
structure NmOk (a : List (List Att)) : Prop where
  len : a.length ≤ 140737488351232
  all : ∀ x, x ∈ a → VsOk x
theorem NmOk.get {a : List (List Att)} (h : NmOk a) {k : Nat} (hk : k < a.length) (d : List Att) : VsOk (a.getD k d) := by
  rw [List.getD_eq_getElem?_getD, List.getElem?_eq_getElem hk]
  exact h.all _ (List.getElem_mem hk)
def both (x y : List Att) : Bool := covers x y && covers y x
theorem both_intro {x y : List Att} (h1 : covers x y = true) (h2 : covers y x = true) : both x y = true := by unfold both; rw [h1, h2]; rfl
theorem both_l {x y : List Att} (h1 : covers x y = false) : both x y = false := by unfold both; rw [h1]; rfl
theorem both_r {x y : List Att} (h1 : covers y x = false) : both x y = false := by unfold both; rw [h1, Bool.and_false]
def alike (a b : List (List Att)) : Bool := decide (a.length = b.length) && (List.range a.length).all fun i => both (a.getD i []) (b.getD i [])
theorem alike_len {a b : List (List Att)} (h : ¬ a.length = b.length) : alike a b = false := by
  unfold alike
  simp [h]
theorem alike_true {a b : List (List Att)} (h : a.length = b.length) (hall : ∀ i, i < a.length → both (a.getD i []) (b.getD i []) = true) : alike a b = true := by
  unfold alike
  rw [decide_eq_true h, Bool.true_and, List.all_eq_true]
  intro i hi
  exact hall i (List.mem_range.1 hi)
theorem alike_false {a b : List (List Att)} {k : Nat} (hk : k < a.length) (h : both (a.getD k []) (b.getD k []) = false) : alike a b = false := by
  cases hc : alike a b with
  | false => rfl
  | true =>
    unfold alike at hc
    rw [Bool.and_eq_true, List.all_eq_true] at hc
    have := hc.2 k (List.mem_range.2 hk)
    rw [h] at this
    cases this
def SAlike : PSpec
  | [.c (.sl _ (.one (.sl 88 (.cons (.sl 111 (.one (.int .u32))) (.cons (.int .u8) (.one (.sl 5 (.one (.int .u8)))))))) a), .c (.sl _ (.one (.sl 88 (.cons (.sl 111 (.one (.int .u32))) (.cons (.int .u8) (.one (.sl 5 (.one (.int .u8)))))))) b)] =>
    (NmOk a ∧ NmOk b, [.c (.v (.bool (alike a b)))])
  | _ => (False, [])
def alikeLoop (e e' : TypeId) (a b : List (List Att)) : Sch where
  ι := Nat
  pre k := k ≤ a.length ∧ a.length = b.length ∧ AllUpto (fun i => both (a.getD i []) (b.getD i []) = true) k
  sl k := [(0, .c (.sl e rN a)), (1, .c (.sl e' rN b)), (12, .c (.v (.int .i64 a.length))), (13, .c (.v (.int .i64 k)))]
  μ k := a.length - k
theorem alike_vc (e e' : TypeId) (a b : List (List Att)) (hA : NmOk a) (hB : NmOk b) :
    match Try.f19.body with
    | some c => awp EV { spec := fun | 57 => some SCovers | _ => none, loop := fun | 4 => some (alikeLoop e e' a b) | _ => none } c (instAll (argSt 0 0 [.c (.sl e rN a), .c (.sl e' rN b)]) (emptySt Try.f19.ntmps)) (retK EV Try.f19.results.toList [.c (.v (.bool (alike a b)))])
    | none => False := by
  unfold Try.f19
  show awp _ _ _ _ _
  have hA1 := hA.len
  repeat' first
    | refine And.intro ?_ ?_
    | refine fun (k : Nat) (hk : k ≤ a.length ∧ a.length = b.length ∧ AllUpto (fun i => both (a.getD i []) (b.getD i []) = true) k) => ?_
    | (refine fun h => ?_; first | exact ff h | exact tf h | skip)
    | refine Exists.intro (k + 1 : Nat) ?_
    | refine Exists.intro (0 : Nat) ?_
  all_goals try simp only [decide_eq_true_eq, decide_eq_false_iff_not, Bool.not_true, Bool.not_false, Bool.not_eq_true', Bool.not_eq_false', Int.toNat_natCast] at *
  all_goals first
    | exact trivial
    | omega
    | rfl
    | (dsimp only [alikeLoop]; omega)
    | (show (_ : Int) = _; rw [wrap_i64 (by omega) (by omega)]; omega)
    | exact hA.get (by omega) _
    | exact hB.get (by omega) _
    | exact .zero
    | exact (alike_len (by omega)).symm
    | exact hk.2.2.succ (both_intro (by assumption) (by assumption))
    | (show (_ : Bool) = _; exact (alike_false (k := k) (by omega) (both_l (by assumption))).symm)
    | (show (_ : Bool) = _; exact (alike_false (k := k) (by omega) (both_r (by assumption))).symm)
    | (show (_ : Bool) = _; exact (alike_true hk.2.1 fun i hi => hk.2.2.all i (by omega)).symm)
theorem ok_Alike : SpecOk Try.prog 19 SAlike := spec_of EV_ok (fn := Try.f19) (by kernel_rfl) (by kernel_rfl) fun args hs => by
  unfold SAlike at hs ⊢
  split at hs
  · refine ⟨Nat.le_of_ble_eq_true rfl, _, ?_, alike_vc _ _ _ _ hs.1 hs.2⟩
    intro f S h
    dsimp only at h
    split at h
    · cases h; exact ok_Covers
    · cases h
  · exact hs.elim
def within (a b : List (List Att)) : Bool := decide (b.length ≤ a.length) && alike (a.take b.length) b
theorem within_le {a b : List (List Att)} (h : b.length ≤ a.length) : within a b = alike (a.take b.length) b := by
  unfold within
  rw [decide_eq_true h, Bool.true_and]
theorem within_gt {a b : List (List Att)} (h : ¬ b.length ≤ a.length) : within a b = false := by
  unfold within
  rw [decide_eq_false h, Bool.false_and]
theorem NmOk.take {a : List (List Att)} (h : NmOk a) (k : Nat) : NmOk (a.take k) := ⟨by rw [List.length_take]; have := h.len; omega, fun x hx => h.all x (List.mem_of_mem_take hx)⟩
def SWithin : PSpec
  | [.c (.sl _ (.one (.sl 88 (.cons (.sl 111 (.one (.int .u32))) (.cons (.int .u8) (.one (.sl 5 (.one (.int .u8)))))))) a), .c (.sl _ (.one (.sl 88 (.cons (.sl 111 (.one (.int .u32))) (.cons (.int .u8) (.one (.sl 5 (.one (.int .u8)))))))) b)] =>
    (NmOk a ∧ NmOk b, [.c (.v (.bool (within a b)))])
  | _ => (False, [])
theorem within_vc (e e' : TypeId) (a b : List (List Att)) (hA : NmOk a) (hB : NmOk b) :
    match Try.f21.body with
    | some c => awp EV { spec := fun | 19 => some SAlike | _ => none } c (instAll (argSt 0 0 [.c (.sl e rN a), .c (.sl e' rN b)]) (emptySt Try.f21.ntmps)) (retK EV Try.f21.results.toList [.c (.v (.bool (within a b)))])
    | none => False := by
  unfold Try.f21
  show awp _ _ _ _ _
  repeat' first
    | refine And.intro ?_ ?_
    | (refine fun h => ?_; first | exact ff h | exact tf h | skip)
  all_goals try simp only [decide_eq_true_eq, decide_eq_false_iff_not, Bool.not_true, Bool.not_false, Int.toNat_natCast] at *
  all_goals first
    | exact trivial
    | omega
    | rfl
    | exact hA.take _
    | exact hB
    | (show (_ : Bool) = _; exact (within_le (by omega)).symm)
    | (show (_ : Bool) = _; exact (within_gt (by omega)).symm)
theorem ok_Within : SpecOk Try.prog 21 SWithin := spec_of EV_ok (fn := Try.f21) (by kernel_rfl) (by kernel_rfl) fun args hs => by
  unfold SWithin at hs ⊢
  split at hs
  · refine ⟨Nat.le_of_ble_eq_true rfl, _, ?_, within_vc _ _ _ _ hs.1 hs.2⟩
    intro f S h
    dsimp only at h
    split at h
    · cases h; exact ok_Alike
    · cases h
  · exact hs.elim
/-! ### charterref09.Alike -/
def ralikeCfg (e e' : TypeId) (a b : List (List Att)) : Cfg where
  spec := fun | 58 => some SHas | _ => none
  loop := fun
    | 4 => some {
        ι := Nat
        pre := fun k => k ≤ a.length ∧ a.length = b.length ∧ AllUpto (fun i => both (a.getD i []) (b.getD i []) = true) k
        sl := fun k => [(0, .c (.sl e rN a)), (1, .c (.sl e' rN b)), (5, .c (.v (.int .i64 k)))]
        μ := fun k => a.length - k }
    | 7 => some {
        ι := Nat × Nat
        pre := fun k => (k.1 < a.length ∧ a.length = b.length ∧ AllUpto (fun i => both (a.getD i []) (b.getD i []) = true) k.1) ∧ k.2 ≤ (a.getD k.1 []).length ∧ AllUpto (fun i => (b.getD k.1 []).any (like ((a.getD k.1 []).getD i ([], 0, []))) = true) k.2
        sl := fun k => [(0, .c (.sl e rN a)), (1, .c (.sl e' rN b)), (5, .c (.v (.int .i64 k.1))), (6, .c (.v (.int .i64 k.2)))]
        μ := fun k => (a.getD k.1 []).length - k.2
        rel := some fun i k => k.1 = i.1 }
    | 13 => some {
        ι := Nat × Nat × Unit
        pre := fun k => (k.1 < a.length ∧ a.length = b.length ∧ AllUpto (fun i => both (a.getD i []) (b.getD i []) = true) k.1 ∧ covers (a.getD k.1 []) (b.getD k.1 []) = true) ∧ k.2.1 ≤ (b.getD k.1 []).length ∧ AllUpto (fun i => (a.getD k.1 []).any (like ((b.getD k.1 []).getD i ([], 0, []))) = true) k.2.1
        sl := fun k => [(0, .c (.sl e rN a)), (1, .c (.sl e' rN b)), (5, .c (.v (.int .i64 k.1))), (8, .c (.v (.int .i64 k.2.1)))]
        μ := fun k => (b.getD k.1 []).length - k.2.1
        rel := some fun i k => k.1 = i.1 }
    | _ => none
theorem rNz : (rN.zero : List Att) = [] := rfl
theorem rAz : (rA.zero : Att) = ([], 0, []) := rfl
theorem ralike_vc (e e' : TypeId) (a b : List (List Att)) (hA : NmOk a) (hB : NmOk b) :
    match Try.f20.body with
    | some c => awp EV (ralikeCfg e e' a b) c (instAll (argSt 0 0 [.c (.sl e rN a), .c (.sl e' rN b)]) (emptySt Try.f20.ntmps)) (retK EV Try.f20.results.toList [.c (.v (.bool (alike a b)))])
    | none => False := by
  unfold Try.f20
  show awp _ _ _ _ _
  have hA1 := hA.len
  repeat' first
    | refine And.intro ?_ ?_
    | refine fun (k : Nat) (hk : k ≤ a.length ∧ a.length = b.length ∧ AllUpto (fun i => both (a.getD i []) (b.getD i []) = true) k) => ?_
    | refine fun (q : Nat × Nat) (hq : (q.1 < a.length ∧ a.length = b.length ∧ AllUpto (fun i => both (a.getD i []) (b.getD i []) = true) q.1) ∧ q.2 ≤ (a.getD q.1 []).length ∧ AllUpto (fun i => (b.getD q.1 []).any (like ((a.getD q.1 []).getD i ([], 0, []))) = true) q.2) (hqk : q.1 = k) => ?_
    | refine fun (r : Nat × Nat × Unit) (hr : (r.1 < a.length ∧ a.length = b.length ∧ AllUpto (fun i => both (a.getD i []) (b.getD i []) = true) r.1 ∧ covers (a.getD r.1 []) (b.getD r.1 []) = true) ∧ r.2.1 ≤ (b.getD r.1 []).length ∧ AllUpto (fun i => (a.getD r.1 []).any (like ((b.getD r.1 []).getD i ([], 0, []))) = true) r.2.1) (hrk : r.1 = q.1) => ?_
    | (refine fun h => ?_; first | exact ff h | exact tf h | skip)
    | refine Exists.intro ((r.1, r.2.1 + 1, ()) : Nat × Nat × Unit) ?_
    | refine Exists.intro (r.1 + 1 : Nat) ?_
    | refine Exists.intro ((q.1, q.2 + 1) : Nat × Nat) ?_
    | refine Exists.intro ((q.1, 0, ()) : Nat × Nat × Unit) ?_
    | refine Exists.intro ((k, 0) : Nat × Nat) ?_
    | refine Exists.intro (0 : Nat) ?_
  all_goals try simp only [decide_eq_true_eq, decide_eq_false_iff_not, Bool.not_true, Bool.not_false, Bool.not_eq_true', Bool.not_eq_false', Int.toNat_natCast] at *
  all_goals try simp only [rNz, rAz] at *
  all_goals first
    | exact trivial
    | omega
    | rfl
    | exact .zero
    | exact (alike_len (by omega)).symm
    | exact hk.2.1
    | exact hk.2.2
    | exact hq.1.2.1
    | exact hq.1.2.2
    | exact hr.1.2.1
    | exact hr.1.2.2.1
    | exact hr.1.2.2.2
    | exact hA.get (by omega) _
    | exact hB.get (by omega) _
    | exact ((hA.get (by omega) _).get (by omega) _).1
    | exact ((hA.get (by omega) _).get (by omega) _).2
    | exact ((hB.get (by omega) _).get (by omega) _).1
    | exact ((hB.get (by omega) _).get (by omega) _).2
    | exact hq.2.2.succ (by assumption)
    | exact hr.2.2.succ (by assumption)
    | exact covers_true fun i hi => hq.2.2.all i (by omega)
    | exact hr.1.2.2.1.succ (both_intro hr.1.2.2.2 (covers_true fun i hi => hr.2.2.all i (by omega)))
    | (show (_ : Bool) = _; exact (alike_false (k := q.1) (by omega) (both_l (covers_false (k := q.2) (by omega) (by assumption)))).symm)
    | (show (_ : Bool) = _; exact (alike_false (k := r.1) (by omega) (both_r (covers_false (k := r.2.1) (by omega) (by assumption)))).symm)
    | (show (_ : Bool) = _; exact (alike_true hk.2.1 fun i hi => hk.2.2.all i (by omega)).symm)
    | (show (_ : Nat) < _; dsimp only; omega)
    | (show (_ : Int) = _; rw [wrap_i64 (by omega) (by omega)]; omega)
    | (have hz := (hA.get (by omega : q.1 < a.length) []).len; show (_ : Int) = _; rw [wrap_i64 (by omega) (by omega)]; omega)
    | (have hz := (hB.get (by omega : r.1 < b.length) []).len; show (_ : Int) = _; rw [wrap_i64 (by omega) (by omega)]; omega)
theorem ok_RAlike : SpecOk Try.prog 20 SAlike := spec_of EV_ok (fn := Try.f20) (by kernel_rfl) (by kernel_rfl) fun args hs => by
  unfold SAlike at hs ⊢
  split at hs
  · refine ⟨Nat.le_of_ble_eq_true rfl, _, ?_, ralike_vc _ _ _ _ hs.1 hs.2⟩
    intro f S h
    unfold ralikeCfg at h
    dsimp only at h
    split at h
    · cases h; exact ok_Has
    · cases h
  · exact hs.elim
end Go.AX
