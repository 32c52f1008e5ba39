/- Layer 7: a copy of bytes; the references' head and element; the writer's parts: NewWriter, fail, add. -/
import Derived.Test.YtcfphoffpbncmaaS2A
set_option linter.unusedVariables false
set_option linter.unusedSimpArgs false
namespace Go.AX
open Go.Proofs
set_option maxRecDepth 100000
set_option maxHeartbeats 4000000
abbrev cap7 : Nat := 70368744177664
def SClone : ISpec where
  md := [.bor rB]
  S := fun
    | [.c (.bs (.one (.int .u8)) l)] => (l.length ≤ cap7, [.c (.own 5 rB l)], [])
    | _ => (False, [], [])
theorem clone_vc {l : List Int} (hl : l.length ≤ cap7) :
    awp EV {} (Try.f66.body.get rfl) (instAll (argSt 0 0 [.c (.bs rB l)]) (emptySt Try.f66.ntmps)) (iretK EV Try.f66.results.toList SClone.md ([.c (.own 5 rB l)], [])) := by
  unfold Try.f66
  have hl' : l.length ≤ 70368744177664 := hl
  repeat' first
    | refine And.intro ?_ ?_
    | (refine fun h => ?_; first | exact ff h | exact tf h | skip)
  all_goals first
    | exact trivial
    | (show (_ : List Int) = _; exact (by assumption : l = []).symm)
    | (show (_ : List Int) = _; simp)
    | (show (([] : List Int).length + _) * 1 ≤ _; simp only [List.length_nil]; omega)
    | (show (0 : Nat) * _ ≤ _; omega)
    | omega
    | rfl
theorem ok_Clone : ISpecOk Try.prog 66 SClone := ispec_of EV_ok (fn := Try.f66) (by kernel_rfl) (by kernel_rfl) (c := Try.f66.body.get rfl) rfl (by decide +kernel) (Nat.le_of_ble_eq_true rfl) (fun args hs hl => by
  unfold SClone at hs ⊢
  dsimp only at hs ⊢
  split at hs
  · exact ⟨{}, noSp, clone_vc hs⟩
  · exact hs.elim) (fun args hs => by
  unfold SClone at hs ⊢
  dsimp only at hs ⊢
  split at hs
  · rfl
  · exact hs.elim)
/-! ### The references' head and element -/
def SRHead : PSpec
  | [.c (.v (.int .u8 m)), .c (.v (.int .i64 n))] => (U8 m ∧ 0 ≤ n ∧ n ≤ 65535, [.c (.own 5 rB (head7 m n))])
  | _ => (False, [])
theorem ok_RHead : SpecOk Try.prog 26 SRHead := pspec_of EV_ok (fn := Try.f26) (by kernel_rfl) (by kernel_rfl) fun args hs => by
  unfold SRHead at hs ⊢
  split at hs
  · rename_i m n
    refine ⟨Nat.le_of_ble_eq_true rfl, {}, noSp, ?_⟩
    obtain ⟨hm, hn, hn'⟩ := hs
    unfold Try.f26
    show awp _ _ _ _ _
    repeat' first
      | refine And.intro ?_ ?_
      | (refine fun h => ?_; first | exact ff h | exact tf h | skip)
    all_goals try simp only [decide_eq_true_eq, decide_eq_false_iff_not, Bool.not_eq_true', Bool.not_eq_false', Bool.not_true, Bool.not_false] at *
    all_goals first
      | exact trivial
      | omega
      | (show (_ : List Int) = _; rw [head7_1 (by assumption), wrap8 (by omega), Int.emod_eq_of_lt (by omega) (by omega)])
      | (show (_ : List Int) = _; rw [head7_2 (by assumption) (by assumption), wrap8 (by omega), Int.emod_eq_of_lt (by omega) (by omega)])
      | (show (_ : List Int) = _; rw [head7_3 (by assumption) (by assumption), tdiv_pos hn, tmod_pos hn, wrap_i64 (by omega) (by omega), wrap8 (by omega), wrap8 (by omega), Int.emod_eq_of_lt (by omega) (by omega), Int.emod_eq_of_lt (by omega) (by omega)])
  · exact hs.elim
def SElement : ISpec where
  md := [.raw, .bor rB]
  S := fun
    | [.c (.v (.int .u8 m)), .c (.bs (.one (.int .u8)) l)] => (U8 m ∧ l.length ≤ 65535, [.c (.own 5 rB (head7 m l.length ++ l))], [])
    | _ => (False, [], [])
theorem head7_len (m n : Int) : (head7 m n).length ≤ 4 := by
  unfold head7
  split
  · simp
  · split <;> simp
theorem element_vc {m : Int} {l : List Int} (hm : U8 m) (hl : l.length ≤ 65535) :
    awp EV { spec := fun | 26 => some SRHead | _ => none } (Try.f81.body.get rfl) (instAll (argSt 0 0 [.c (.v (.int .u8 m)), .c (.bs rB l)]) (emptySt Try.f81.ntmps)) (iretK EV Try.f81.results.toList SElement.md ([.c (.own 5 rB (head7 m l.length ++ l))], [])) := by
  unfold Try.f81
  have h4 := head7_len m l.length
  repeat' first
    | refine And.intro ?_ ?_
    | (refine fun h => ?_; first | exact ff h | exact tf h | skip)
  all_goals first
    | exact trivial
    | exact hm
    | rfl
    | omega
theorem ok_Element : ISpecOk Try.prog 81 SElement := ispec_of EV_ok (fn := Try.f81) (by kernel_rfl) (by kernel_rfl) (c := Try.f81.body.get rfl) rfl (by decide +kernel) (Nat.le_of_ble_eq_true rfl) (fun args hs hl => by
  unfold SElement at hs ⊢
  dsimp only at hs ⊢
  split at hs
  · refine ⟨_, ⟨fun f s h => ?_, fun f s h => by cases h⟩, element_vc hs.1 hs.2⟩
    dsimp only [Cfg.sp] at h
    split at h
    · cases h; exact ok_RHead
    · cases h
  · exact hs.elim) (fun args hs => by
  unfold SElement at hs ⊢
  dsimp only at hs ⊢
  split at hs
  · rfl
  · exact hs.elim)
/-! ### The writer -/
abbrev WBox (lv : List (Int × List Int)) (er : Int) : TV := .box 96 [.nest 101 (some .u8) 5 rB lv, .er 36 er]
def SNewWriter : PSpec
  | [] => (True, [WBox [(0, [])] 0])
  | _ => (False, [])
theorem ok_NewWriter : SpecOk Try.prog 27 SNewWriter := pspec_of EV_ok (fn := Try.f27) (by kernel_rfl) (by kernel_rfl) fun args hs => by
  unfold SNewWriter at hs ⊢
  split at hs
  · refine ⟨Nat.le_of_ble_eq_true rfl, {}, noSp, ?_⟩
    unfold Try.f27
    show awp _ _ _ _ _
    repeat' first
      | refine And.intro ?_ ?_
      | (refine fun h => ?_; first | exact ff h | exact tf h | skip)
    all_goals first
      | exact trivial
      | rfl
      | decide
      | omega
  · exact hs.elim
def SFail : ISpec where
  md := [.box, .raw]
  S := fun
    | [.box 96 [.nest 101 (some .u8) 5 (.one (.int .u8)) lv, .er 36 er], .c (.er 36 c)] => (True, [], [WBox lv (if er = 0 then c else er)])
    | [.box 96 [.nest 101 (some .u8) 5 (.one (.int .u8)) lv, .er 36 er], .c (.v (.iface 36 (.int .i64 c)))] => (c ≠ 0, [], [WBox lv (if er = 0 then c else er)])
    | _ => (False, [], [])
theorem fail_vc {lv : List (Int × List Int)} {er : Int} {t : T0} {c : Int} (ht : t = .er 36 c ∨ (t = .v (.iface 36 (.int .i64 c)) ∧ c ≠ 0)) :
    awp EV {} (Try.f62.body.get rfl) (instAll (argSt 0 0 [WBox lv er, .c t]) (emptySt Try.f62.ntmps)) (iretK EV Try.f62.results.toList SFail.md ([], [WBox lv (if er = 0 then c else er)])) := by
  unfold Try.f62
  rcases ht with rfl | ⟨rfl, hc⟩
  all_goals repeat' first
    | refine And.intro ?_ ?_
    | (refine fun h => ?_; first | exact ff h | exact tf h | skip)
  all_goals try simp only [decide_eq_true_eq, decide_eq_false_iff_not, Bool.not_eq_true', Bool.not_eq_false', Bool.not_true, Bool.not_false] at *
  all_goals first
    | exact trivial
    | rfl
    | assumption
    | (rw [if_pos (by assumption)])
    | (rw [if_neg (by assumption)])
    | omega
    | exact .inl rfl
theorem ok_Fail : ISpecOk Try.prog 62 SFail := ispec_of EV_ok (fn := Try.f62) (by kernel_rfl) (by kernel_rfl) (c := Try.f62.body.get rfl) rfl (by decide +kernel) (Nat.le_of_ble_eq_true rfl) (fun args hs hl => by
  unfold SFail at hs ⊢
  dsimp only at hs ⊢
  split at hs
  · exact ⟨_, noSp, fail_vc (.inl rfl)⟩
  · exact ⟨_, noSp, fail_vc (.inr ⟨rfl, hs⟩)⟩
  · exact hs.elim) (fun args hs => by
  unfold SFail at hs ⊢
  dsimp only at hs ⊢
  split at hs
  · rfl
  · rfl
  · exact hs.elim)
/-- An element more in the innermost whole. -/
def lvAdd (lv : List (Int × List Int)) (m : Int) (b : List Int) : List (Int × List Int) :=
  lset lv (lv.length - 1) ((lv.getD (lv.length - 1) (0, [])).1, (lv.getD (lv.length - 1) (0, [])).2 ++ head7 m b.length ++ b)
structure LvOk (lv : List (Int × List Int)) (n : Nat) : Prop where
  ne : 0 < lv.length
  len : lv.length ≤ 30
  all : ∀ x, x ∈ lv → x.2.length ≤ n ∧ U8 x.1 ∧ mk7 x.1 = true
theorem LvOk.get {lv : List (Int × List Int)} {n i : Nat} (h : LvOk lv n) (hi : i < lv.length) : (lv.getD i (0, [])).2.length ≤ n := by
  rw [List.getD_eq_getElem?_getD, List.getElem?_eq_getElem hi]
  exact (h.all _ (List.getElem_mem hi)).1
theorem LvOk.mark {lv : List (Int × List Int)} {n i : Nat} (h : LvOk lv n) (hi : i < lv.length) : U8 (lv.getD i (0, [])).1 ∧ mk7 (lv.getD i (0, [])).1 = true := by
  rw [List.getD_eq_getElem?_getD, List.getElem?_eq_getElem hi]
  exact (h.all _ (List.getElem_mem hi)).2
theorem LvOk.take {lv : List (Int × List Int)} {n k : Nat} (h : LvOk lv n) (hk : 0 < k) : LvOk (lv.take k) n := ⟨by rw [List.length_take]; have := h.ne; omega, by rw [List.length_take]; have := h.len; omega, fun x hx => h.all x (List.mem_of_mem_take hx)⟩
def SAdd : ISpec where
  md := [.box, .raw, .bor rB]
  S := fun
    | [.box 96 [.nest 101 (some .u8) 5 (.one (.int .u8)) lv, .er 36 er], .c (.v (.int .u8 m)), .c (.bs (.one (.int .u8)) b)] =>
      ((U8 m ∧ mk7 m = true ∧ er = 0) ∧ LvOk lv cap7 ∧ b.length ≤ cap7, [], [WBox (if b.length ≤ 65535 then lvAdd lv m b else lv) (if b.length ≤ 65535 then 0 else 4)])
    | _ => (False, [], [])
def addCfg : Cfg where
  spec := fun | 24 => some SHead | _ => none
  isp := fun | 62 => some SFail | _ => none
theorem addCfg_ok : SpsOk Try.prog addCfg.sp := by
  constructor
  · intro f s h
    dsimp only [Cfg.sp, addCfg] at h
    split at h
    · cases h; exact ok_Head
    · cases h
  · intro f s h
    dsimp only [Cfg.sp, addCfg] at h
    split at h
    · cases h; exact ok_Fail
    · cases h
theorem hc5 {m : Int} {n : Nat} (h : mk7 m = true) : hcode m n = if n ≤ 65535 then 0 else 4 := by
  split
  · exact hc4 h (by omega) (by omega)
  · exact hc3 h (by omega) (by omega)
theorem add_vc {lv : List (Int × List Int)} {m : Int} {b : List Int} (hm : U8 m) (hk : mk7 m = true) (hl : LvOk lv cap7) (hb : b.length ≤ cap7) :
    awp EV addCfg (Try.f63.body.get rfl) (instAll (argSt 0 0 [WBox lv 0, .c (.v (.int .u8 m)), .c (.bs rB b)]) (emptySt Try.f63.ntmps)) (iretK EV Try.f63.results.toList SAdd.md ([], [WBox (if b.length ≤ 65535 then lvAdd lv m b else lv) (if b.length ≤ 65535 then 0 else 4)])) := by
  unfold Try.f63
  have h1 := hl.ne
  have h2 := hl.len
  have hb' : b.length ≤ 70368744177664 := hb
  have h5 := hc5 (n := b.length) hk
  have hwr : IntKind.i64.wrap ((lv.length : Int) - 1) = ((lv.length - 1 : Nat) : Int) := by rw [wrap_i64 (by omega) (by omega)]; omega
  have hwt : (IntKind.i64.wrap ((lv.length : Int) - 1)).toNat = lv.length - 1 := by rw [hwr]; omega
  have e0 : hcode m b.length = 0 → b.length ≤ 65535 := fun h => by
    rw [h5] at h
    split at h
    · assumption
    · cases h
  have e1 : ¬ hcode m b.length = 0 → ¬ b.length ≤ 65535 := fun h h6 => h (by rw [h5, if_pos h6])
  have h6 := hl.get (i := lv.length - 1) (by omega)
  have h6' : (lv.getD (lv.length - 1) (0, [])).2.length ≤ 70368744177664 := h6
  have h7 := head7_len m b.length
  repeat' first
    | refine And.intro ?_ ?_
    | (refine fun h => ?_; first | exact ff h | exact tf h | skip)
  all_goals try simp only [decide_eq_true_eq, decide_eq_false_iff_not, Bool.not_eq_true', Bool.not_eq_false', Bool.not_true, Bool.not_false] at *
  all_goals first
    | exact trivial
    | exact hm
    | rfl
    | exact .inl rfl
    | exact ⟨by omega, by omega⟩
    | omega
    | (rw [hwr]; omega)
    | (rw [hwt]; omega)
    | (show (if (0 : Int) = 0 then hcode m b.length else 0) = _; rw [if_pos rfl, h5])
    | (show (0 : Int) = _; rw [if_pos (e0 (by assumption))])
    | (show (_ : List (Int × List Int)) = _; rw [if_neg (e1 (by assumption))])
    | (show (_ : List (Int × List Int)) = _; rw [if_pos (e0 (by assumption)), if_pos (show hcode m b.length = 0 by assumption)]; unfold lvAdd; rw [hwt])
    | (rw [if_pos (show hcode m b.length = 0 by assumption), hwt]; omega)
    | (rw [if_pos (show hcode m b.length = 0 by assumption), hwt]; simp only [List.length_append]; have := e0 (by assumption); omega)
theorem ok_Add : ISpecOk Try.prog 63 SAdd := ispec_of EV_ok (fn := Try.f63) (by kernel_rfl) (by kernel_rfl) (c := Try.f63.body.get rfl) rfl (by decide +kernel) (Nat.le_of_ble_eq_true rfl) (fun args hs hl => by
  unfold SAdd at hs ⊢
  dsimp only at hs ⊢
  split at hs
  · obtain ⟨⟨h1, h2, rfl⟩, h4, h5⟩ := hs
    exact ⟨_, addCfg_ok, add_vc h1 h2 h4 h5⟩
  · exact hs.elim) (fun args hs => by
  unfold SAdd at hs ⊢
  dsimp only at hs ⊢
  split at hs
  · rfl
  · exact hs.elim)
end Go.AX
