/- Layer 7: the writer's Bytes; the reader's parts. -/
import Derived.Test.YtcfphoffpbncmaaS2C
set_option linter.unusedVariables false
set_option linter.unusedSimpArgs false
namespace Go.AX
open Go.Proofs
set_option maxRecDepth 100000
set_option maxHeartbeats 4000000
theorem ok_Close : ISpecOk Try.prog 34 SClose := ispec_of EV_ok (fn := Try.f34) (by kernel_rfl) (by kernel_rfl) (c := Try.f34.body.get rfl) rfl (by decide +kernel) (Nat.le_of_ble_eq_true rfl) (fun args hs hl => by
  unfold SClose at hs ⊢
  dsimp only at hs ⊢
  split at hs
  · exact ⟨_, closeCfg_ok, close_vc hs⟩
  · exact hs.elim) (fun args hs => by
  unfold SClose at hs ⊢
  dsimp only at hs ⊢
  split at hs
  · rfl
  · exact hs.elim)
def SBytes : ISpec where
  md := [.box]
  S := fun
    | [.box 96 [.nest 101 (some .u8) 5 (.one (.int .u8)) lv, .er 36 er]] => (LvOk lv cap7, [.c (.own 5 rB (Wr.out ⟨lv, er⟩)), .c (.er 36 (Wr.code ⟨lv, er⟩))], [WBox lv er])
    | _ => (False, [], [])
def bytesCfg : Cfg where
  isp := fun | 66 => some SClone | _ => none
theorem bytesCfg_ok : SpsOk Try.prog bytesCfg.sp := by
  constructor
  · intro f s h
    cases h
  · intro f s h
    dsimp only [Cfg.sp, bytesCfg] at h
    split at h
    · cases h; exact ok_Clone
    · cases h
theorem out1 {w : Wr} (h : ¬ w.er = 0) : w.out = [] := by unfold Wr.out; rw [if_pos h]
theorem out3 {w : Wr} (h : w.er = 0) (h2 : ¬ 1 < w.lv.length) : w.out = (w.lv.getD 0 (0, [])).2 := by unfold Wr.out; rw [if_neg (by simpa using h), if_neg h2]
theorem code1 {w : Wr} (h : ¬ w.er = 0) : w.code = w.er := by unfold Wr.code; rw [if_pos h]
theorem code2 {w : Wr} (h : w.er = 0) (h2 : 1 < w.lv.length) : w.code = 17 := by unfold Wr.code; rw [if_neg (by simpa using h), if_pos h2]
theorem code3 {w : Wr} (h : w.er = 0) (h2 : ¬ 1 < w.lv.length) : w.code = 0 := by unfold Wr.code; rw [if_neg (by simpa using h), if_neg h2]
theorem out2' {w : Wr} (h : 1 < w.lv.length) : w.out = [] := by
  unfold Wr.out
  split
  · rfl
  · first
    | rfl
    | rw [if_pos h]
theorem lset_same {α : Type} (xs : List α) (i : Nat) (d : α) (h : i < xs.length) : lset xs i (xs.getD i d) = xs := by
  unfold lset
  rw [List.getD_eq_getElem?_getD, List.getElem?_eq_getElem h]
  simp
theorem bytes_vc {lv : List (Int × List Int)} {er : Int} (hl : LvOk lv cap7) :
    awp EV bytesCfg (Try.f36.body.get rfl) (instAll (argSt 0 0 [WBox lv er]) (emptySt Try.f36.ntmps)) (iretK EV Try.f36.results.toList SBytes.md ([.c (.own 5 rB (Wr.out ⟨lv, er⟩)), .c (.er 36 (Wr.code ⟨lv, er⟩))], [WBox lv er])) := by
  unfold Try.f36
  have h1 := hl.ne
  have h2 := hl.len
  repeat' first
    | refine And.intro ?_ ?_
    | (refine fun h => ?_; first | exact ff h | exact tf h | skip)
  all_goals try simp only [decide_eq_true_eq, decide_eq_false_iff_not, Bool.not_eq_true', Bool.not_eq_false', Bool.not_true, Bool.not_false] at *
  all_goals first
    | exact trivial
    | assumption
    | rfl
    | exact .inl rfl
    | omega
    | exact hl.get h1
    | (show ([] : List Int) = _; rw [out1 (by assumption)])
    | (show ([] : List Int) = _; rw [out2' (show 1 < lv.length by omega)])
    | (show (_ : List Int) = _; rw [out3 (by assumption) (show ¬ 1 < lv.length by omega)]; rfl)
    | (show (_ : Int) = _; rw [code1 (by assumption)])
    | (show (_ : Int) = _; rw [code2 (by assumption) (show 1 < lv.length by omega)])
    | (show (_ : Int) = _; rw [code3 (by assumption) (show ¬ 1 < lv.length by omega)])
    | (show (_ : List (Int × List Int)) = _; exact lset_same lv 0 (0, []) h1)
    | trace_state
theorem ok_Bytes : ISpecOk Try.prog 36 SBytes := ispec_of EV_ok (fn := Try.f36) (by kernel_rfl) (by kernel_rfl) (c := Try.f36.body.get rfl) rfl (by decide +kernel) (Nat.le_of_ble_eq_true rfl) (fun args hs hl => by
  unfold SBytes at hs ⊢
  dsimp only at hs ⊢
  split at hs
  · exact ⟨_, bytesCfg_ok, bytes_vc hs⟩
  · exact hs.elim) (fun args hs => by
  unfold SBytes at hs ⊢
  dsimp only at hs ⊢
  split at hs
  · rfl
  · exact hs.elim)
/-! ### The reader -/
abbrev rI : Row := .one (.int .i64)
abbrev RBox (b : List Int) (i : Int) (ends : List Int) : TV := .box 103 [.sl 5 rB b, .v (.int .i64 i), .own 3 rI ends]
def SNewReader : ISpec where
  md := [.bor rB]
  S := fun
    | [.c (.bs (.one (.int .u8)) b)] => (b.length ≤ cap7, [RBox b 0 [(b.length : Int)]], [])
    | _ => (False, [], [])
theorem newReader_vc {b : List Int} (hb : b.length ≤ cap7) :
    awp EV bytesCfg (Try.f39.body.get rfl) (instAll (argSt 0 0 [.c (.bs rB b)]) (emptySt Try.f39.ntmps)) (iretK EV Try.f39.results.toList SNewReader.md ([RBox b 0 [(b.length : Int)]], [])) := by
  unfold Try.f39
  repeat' first
    | refine And.intro ?_ ?_
    | (refine fun h => ?_; first | exact ff h | exact tf h | skip)
  all_goals first
    | exact trivial
    | assumption
    | rfl
    | omega
    | decide
theorem ok_NewReader : ISpecOk Try.prog 39 SNewReader := ispec_of EV_ok (fn := Try.f39) (by kernel_rfl) (by kernel_rfl) (c := Try.f39.body.get rfl) rfl (by decide +kernel) (Nat.le_of_ble_eq_true rfl) (fun args hs hl => by
  unfold SNewReader at hs ⊢
  dsimp only at hs ⊢
  split at hs
  · exact ⟨_, bytesCfg_ok, newReader_vc hs⟩
  · exact hs.elim) (fun args hs => by
  unfold SNewReader at hs ⊢
  dsimp only at hs ⊢
  split at hs
  · rfl
  · exact hs.elim)
/-- A reader's state: where it is, and the ends of the wholes that it is in. -/
structure RdOk (b : List Int) (i : Int) (ends : List Int) : Prop where
  ne : 0 < ends.length
  len : ends.length ≤ 30
  cap : b.length ≤ cap7
  lo : 0 ≤ i
  mid : i ≤ ends.getD (ends.length - 1) 0
  hi : ends.getD (ends.length - 1) 0 ≤ b.length
def left7 (b : List Int) (i : Int) (ends : List Int) : List Int := (b.take (ends.getD (ends.length - 1) 0).toNat).drop i.toNat
def SLeft : ISpec where
  md := [.box]
  S := fun
    | [.box 103 [.sl _ (.one (.int .u8)) b, .v (.int .i64 i), .own 3 (.one (.int .i64)) ends]] => (RdOk b i ends, [.c (.sl 5 rB (left7 b i ends))], [RBox b i ends])
    | _ => (False, [], [])
theorem left_vc {e : TypeId} {b : List Int} {i : Int} {ends : List Int} (h : RdOk b i ends) :
    awp EV {} (Try.f70.body.get rfl) (instAll (argSt 0 0 [.box 103 [.sl e rB b, .v (.int .i64 i), .own 3 rI ends]]) (emptySt Try.f70.ntmps)) (iretK EV Try.f70.results.toList SLeft.md ([.c (.sl 5 rB (left7 b i ends))], [RBox b i ends])) := by
  unfold Try.f70
  have h1 := h.ne
  have h2 := h.len
  have hwr : IntKind.i64.wrap ((ends.length : Int) - 1) = ((ends.length - 1 : Nat) : Int) := by rw [wrap_i64 (by omega) (by omega)]; omega
  have hwt : (IntKind.i64.wrap ((ends.length : Int) - 1)).toNat = ends.length - 1 := by rw [hwr]; omega
  have h3 := h.lo
  have h4 := h.mid
  have h5 := h.hi
  repeat' first
    | refine And.intro ?_ ?_
    | (refine fun h => ?_; first | exact ff h | exact tf h | skip)
  all_goals first
    | exact trivial
    | assumption
    | rfl
    | omega
    | (rw [hwr]; omega)
    | (rw [hwt]; exact h4)
    | (rw [hwt]; exact h5)
    | (show (_ : List Int) = _; rw [hwt]; rfl)
    | trace_state
theorem ok_Left : ISpecOk Try.prog 70 SLeft := ispec_of EV_ok (fn := Try.f70) (by kernel_rfl) (by kernel_rfl) (c := Try.f70.body.get rfl) rfl (by decide +kernel) (Nat.le_of_ble_eq_true rfl) (fun args hs hl => by
  unfold SLeft at hs ⊢
  dsimp only at hs ⊢
  split at hs
  · exact ⟨_, noSp, left_vc hs⟩
  · exact hs.elim) (fun args hs => by
  unfold SLeft at hs ⊢
  dsimp only at hs ⊢
  split at hs
  · rfl
  · exact hs.elim)
end Go.AX
