/- Layer 7: the writer's methods: Put, Open, Close, Bytes. -/
import Derived.Test.YtcfphoffpbncmaaS2B
set_option linter.unusedVariables false
set_option linter.unusedSimpArgs false
namespace Go.AX
open Go.Proofs
set_option maxRecDepth 100000
set_option maxHeartbeats 4000000
/-! ### What the methods do, plainly -/
structure Wr where
  lv : List (Int × List Int)
  er : Int
def Wr.put (w : Wr) (m : Int) (b : List Int) : Wr :=
  if w.er ≠ 0 then w else if mk7 m = false ∨ wh7 m = true then ⟨w.lv, 1⟩ else if b.length ≤ 65535 then ⟨lvAdd w.lv m b, 0⟩ else ⟨w.lv, 4⟩
def Wr.opn (w : Wr) (m : Int) : Wr :=
  if w.er ≠ 0 then w else if mk7 m = false ∨ wh7 m = false then ⟨w.lv, 1⟩ else if 24 < w.lv.length then ⟨w.lv, 5⟩ else ⟨w.lv ++ [(m, [])], 0⟩
def Wr.last (w : Wr) : Int × List Int := w.lv.getD (w.lv.length - 1) (0, [])
def Wr.cls (w : Wr) : Wr :=
  if w.er ≠ 0 then w else if w.lv.length = 1 then ⟨w.lv, 17⟩ else if w.last.2.length ≤ 65535 then ⟨lvAdd (w.lv.take (w.lv.length - 1)) w.last.1 w.last.2, 0⟩ else ⟨w.lv.take (w.lv.length - 1), 4⟩
def Wr.out (w : Wr) : List Int := if w.er ≠ 0 then [] else if 1 < w.lv.length then [] else (w.lv.getD 0 (0, [])).2
def Wr.code (w : Wr) : Int := if w.er ≠ 0 then w.er else if 1 < w.lv.length then 17 else 0
def SPut : ISpec where
  md := [.box, .raw, .bor rB]
  S := fun
    | [.box 96 [.nest 101 (some .u8) 5 (.one (.int .u8)) lv, .er 36 er], .c (.v (.int .u8 m)), .c (.bs (.one (.int .u8)) b)] =>
      (U8 m ∧ LvOk lv cap7 ∧ b.length ≤ cap7, [], [WBox (Wr.put ⟨lv, er⟩ m b).lv (Wr.put ⟨lv, er⟩ m b).er])
    | _ => (False, [], [])
def putCfg : Cfg where
  spec := fun | 60 => some SMark | 61 => some SIsWh | _ => none
  isp := fun | 62 => some SFail | 63 => some SAdd | _ => none
theorem putCfg_ok : SpsOk Try.prog putCfg.sp := by
  constructor
  · intro f s h
    dsimp only [Cfg.sp, putCfg] at h
    split at h
    · cases h; exact ok_Valid
    · cases h; exact ok_IsWhole
    · cases h
  · intro f s h
    dsimp only [Cfg.sp, putCfg] at h
    split at h
    · cases h; exact ok_Fail
    · cases h; exact ok_Add
    · cases h
theorem put1 {w : Wr} {m : Int} {b : List Int} (h : ¬ w.er = 0) : w.put m b = w := by unfold Wr.put; rw [if_pos h]
theorem put2 {w : Wr} {m : Int} {b : List Int} (h : w.er = 0) (h2 : mk7 m = false ∨ wh7 m = true) : w.put m b = ⟨w.lv, 1⟩ := by unfold Wr.put; rw [if_neg (by simpa using h), if_pos h2]
theorem put3 {w : Wr} {m : Int} {b : List Int} (h : w.er = 0) (h1 : mk7 m = true) (h2 : wh7 m = false) : w.put m b = ⟨if b.length ≤ 65535 then lvAdd w.lv m b else w.lv, if b.length ≤ 65535 then 0 else 4⟩ := by
  unfold Wr.put
  rw [if_neg (by simpa using h), if_neg (by rw [h1, h2]; simp)]
  split <;> rfl
theorem put_vc {lv : List (Int × List Int)} {er m : Int} {b : List Int} (hm : U8 m) (hl : LvOk lv cap7) (hb : b.length ≤ cap7) :
    awp EV putCfg (Try.f30.body.get rfl) (instAll (argSt 0 0 [WBox lv er, .c (.v (.int .u8 m)), .c (.bs rB b)]) (emptySt Try.f30.ntmps)) (iretK EV Try.f30.results.toList SPut.md ([], [WBox (Wr.put ⟨lv, er⟩ m b).lv (Wr.put ⟨lv, er⟩ m b).er])) := by
  unfold Try.f30
  repeat' first
    | refine And.intro ?_ ?_
    | (refine fun h => ?_; first | exact ff h | exact tf h | skip)
  all_goals try simp only [decide_eq_true_eq, decide_eq_false_iff_not, Bool.not_eq_true', Bool.not_eq_false', Bool.not_true, Bool.not_false] at *
  all_goals first
    | exact trivial
    | exact hm
    | assumption
    | rfl
    | exact .inl rfl
    | omega
    | (show (_ : List (Int × List Int)) = _; rw [put1 (by assumption)])
    | (show (_ : Int) = _; rw [put1 (by assumption)])
    | (show (_ : List (Int × List Int)) = _; rw [put2 (by assumption) (.inl (by assumption))])
    | (show (if er = 0 then (1 : Int) else er) = _; rw [put2 (by assumption) (.inl (by assumption)), if_pos (by assumption)])
    | (show (_ : List (Int × List Int)) = _; rw [put2 (by assumption) (.inr (by assumption))])
    | (show (if er = 0 then (1 : Int) else er) = _; rw [put2 (by assumption) (.inr (by assumption)), if_pos (by assumption)])
    | (show (_ : List (Int × List Int)) = _; rw [put3 (by assumption) (by assumption) (by assumption)])
    | (show (_ : Int) = _; rw [put3 (by assumption) (by assumption) (by assumption)])
    | trace_state
theorem ok_Put : ISpecOk Try.prog 30 SPut := ispec_of EV_ok (fn := Try.f30) (by kernel_rfl) (by kernel_rfl) (c := Try.f30.body.get rfl) rfl (by decide +kernel) (Nat.le_of_ble_eq_true rfl) (fun args hs hl => by
  unfold SPut at hs ⊢
  dsimp only at hs ⊢
  split at hs
  · exact ⟨_, putCfg_ok, put_vc hs.1 hs.2.1 hs.2.2⟩
  · exact hs.elim) (fun args hs => by
  unfold SPut at hs ⊢
  dsimp only at hs ⊢
  split at hs
  · rfl
  · exact hs.elim)
/-! ### Open -/
def SOpen : ISpec where
  md := [.box, .raw]
  S := fun
    | [.box 96 [.nest 101 (some .u8) 5 (.one (.int .u8)) lv, .er 36 er], .c (.v (.int .u8 m))] =>
      (U8 m ∧ LvOk lv cap7, [], [WBox (Wr.opn ⟨lv, er⟩ m).lv (Wr.opn ⟨lv, er⟩ m).er])
    | _ => (False, [], [])
def openCfg : Cfg where
  spec := fun | 60 => some SMark | 61 => some SIsWh | _ => none
  isp := fun | 62 => some SFail | _ => none
theorem openCfg_ok : SpsOk Try.prog openCfg.sp := by
  constructor
  · intro f s h
    dsimp only [Cfg.sp, openCfg] at h
    split at h
    · cases h; exact ok_Valid
    · cases h; exact ok_IsWhole
    · cases h
  · intro f s h
    dsimp only [Cfg.sp, openCfg] at h
    split at h
    · cases h; exact ok_Fail
    · cases h
theorem opn1 {w : Wr} {m : Int} (h : ¬ w.er = 0) : w.opn m = w := by unfold Wr.opn; rw [if_pos h]
theorem opn2 {w : Wr} {m : Int} (h : w.er = 0) (h2 : mk7 m = false ∨ wh7 m = false) : w.opn m = ⟨w.lv, 1⟩ := by unfold Wr.opn; rw [if_neg (by simpa using h), if_pos h2]
theorem opn3 {w : Wr} {m : Int} (h : w.er = 0) (h1 : mk7 m = true) (h2 : wh7 m = true) (h3 : 24 < w.lv.length) : w.opn m = ⟨w.lv, 5⟩ := by
  unfold Wr.opn
  rw [if_neg (by simpa using h), if_neg (by rw [h1, h2]; simp), if_pos h3]
theorem opn4 {w : Wr} {m : Int} (h : w.er = 0) (h1 : mk7 m = true) (h2 : wh7 m = true) (h3 : ¬ 24 < w.lv.length) : w.opn m = ⟨w.lv ++ [(m, [])], 0⟩ := by
  unfold Wr.opn
  rw [if_neg (by simpa using h), if_neg (by rw [h1, h2]; simp), if_neg h3]
theorem open_vc {lv : List (Int × List Int)} {er m : Int} (hm : U8 m) (hl : LvOk lv cap7) :
    awp EV openCfg (Try.f32.body.get rfl) (instAll (argSt 0 0 [WBox lv er, .c (.v (.int .u8 m))]) (emptySt Try.f32.ntmps)) (iretK EV Try.f32.results.toList SOpen.md ([], [WBox (Wr.opn ⟨lv, er⟩ m).lv (Wr.opn ⟨lv, er⟩ m).er])) := by
  unfold Try.f32
  have h2 := hl.len
  repeat' first
    | refine And.intro ?_ ?_
    | (refine fun h => ?_; first | exact ff h | exact tf h | skip)
  all_goals try simp only [decide_eq_true_eq, decide_eq_false_iff_not, Bool.not_eq_true', Bool.not_eq_false', Bool.not_true, Bool.not_false] at *
  all_goals first
    | exact trivial
    | exact hm
    | assumption
    | rfl
    | exact .inl rfl
    | omega
    | (show (lv.length + 1) * 32 ≤ _; omega)
    | (show (_ : List (Int × List Int)) = _; rw [opn1 (by assumption)])
    | (show (_ : Int) = _; rw [opn1 (by assumption)])
    | (show (_ : List (Int × List Int)) = _; rw [opn2 (by assumption) (.inl (by assumption))])
    | (show (if er = 0 then (1 : Int) else er) = _; rw [opn2 (by assumption) (.inl (by assumption)), if_pos (by assumption)])
    | (show (_ : List (Int × List Int)) = _; rw [opn2 (by assumption) (.inr (by assumption))])
    | (show (if er = 0 then (1 : Int) else er) = _; rw [opn2 (by assumption) (.inr (by assumption)), if_pos (by assumption)])
    | (show (_ : List (Int × List Int)) = _; rw [opn3 (by assumption) (by assumption) (by assumption) (show 24 < lv.length by omega)])
    | (show (if er = 0 then (5 : Int) else er) = _; rw [opn3 (by assumption) (by assumption) (by assumption) (show 24 < lv.length by omega), if_pos (by assumption)])
    | (show (_ : List (Int × List Int)) = _; rw [opn4 (by assumption) (by assumption) (by assumption) (show ¬ 24 < lv.length by omega)]; rfl)
    | (show (_ : Int) = _; rw [opn4 (by assumption) (by assumption) (by assumption) (show ¬ 24 < lv.length by omega)]; assumption)
    | exact Nat.one_pos
    | exact absurd ‹(_ : Nat) = _› (Nat.ne_of_beq_eq_false rfl)
theorem ok_Open : ISpecOk Try.prog 32 SOpen := ispec_of EV_ok (fn := Try.f32) (by kernel_rfl) (by kernel_rfl) (c := Try.f32.body.get rfl) rfl (by decide +kernel) (Nat.le_of_ble_eq_true rfl) (fun args hs hl => by
  unfold SOpen at hs ⊢
  dsimp only at hs ⊢
  split at hs
  · exact ⟨_, openCfg_ok, open_vc hs.1 hs.2⟩
  · exact hs.elim) (fun args hs => by
  unfold SOpen at hs ⊢
  dsimp only at hs ⊢
  split at hs
  · rfl
  · exact hs.elim)
/-! ### Close -/
def SClose : ISpec where
  md := [.box]
  S := fun
    | [.box 96 [.nest 101 (some .u8) 5 (.one (.int .u8)) lv, .er 36 er]] => (LvOk lv cap7, [], [WBox (Wr.cls ⟨lv, er⟩).lv (Wr.cls ⟨lv, er⟩).er])
    | _ => (False, [], [])
def closeCfg : Cfg where
  isp := fun | 62 => some SFail | 63 => some SAdd | _ => none
  ld := fun _ => [11]
theorem closeCfg_ok : SpsOk Try.prog closeCfg.sp := by
  constructor
  · intro f s h
    cases h
  · intro f s h
    dsimp only [Cfg.sp, closeCfg] at h
    split at h
    · cases h; exact ok_Fail
    · cases h; exact ok_Add
    · cases h
theorem cls1 {w : Wr} (h : ¬ w.er = 0) : w.cls = w := by unfold Wr.cls; rw [if_pos h]
theorem cls2 {w : Wr} (h : w.er = 0) (h2 : w.lv.length = 1) : w.cls = ⟨w.lv, 17⟩ := by unfold Wr.cls; rw [if_neg (by simpa using h), if_pos h2]
theorem cls3 {w : Wr} (h : w.er = 0) (h2 : ¬ w.lv.length = 1) : w.cls = ⟨if w.last.2.length ≤ 65535 then lvAdd (w.lv.take (w.lv.length - 1)) w.last.1 w.last.2 else w.lv.take (w.lv.length - 1), if w.last.2.length ≤ 65535 then 0 else 4⟩ := by
  unfold Wr.cls
  rw [if_neg (by simpa using h), if_neg h2]
  split <;> rfl
theorem close_vc {lv : List (Int × List Int)} {er : Int} (hl : LvOk lv cap7) :
    awp EV closeCfg (Try.f34.body.get rfl) (instAll (argSt 0 0 [WBox lv er]) (emptySt Try.f34.ntmps)) (iretK EV Try.f34.results.toList SClose.md ([], [WBox (Wr.cls ⟨lv, er⟩).lv (Wr.cls ⟨lv, er⟩).er])) := by
  unfold Try.f34
  have h1 := hl.ne
  have h2 := hl.len
  have hwr : IntKind.i64.wrap ((lv.length : Int) - 1) = ((lv.length - 1 : Nat) : Int) := by rw [wrap_i64 (by omega) (by omega)]; omega
  have hwt : (IntKind.i64.wrap ((lv.length : Int) - 1)).toNat = lv.length - 1 := by rw [hwr]; omega
  repeat' first
    | refine And.intro ?_ ?_
    | (refine fun h => ?_; first | exact ff h | exact tf h | skip)
  all_goals try simp only [decide_eq_true_eq, decide_eq_false_iff_not, Bool.not_eq_true', Bool.not_eq_false', Bool.not_true, Bool.not_false] at *
  all_goals first
    | exact trivial
    | assumption
    | rfl
    | exact .inl rfl
    | omega
    | (rw [hwr]; omega)
    | (rw [hwt]; omega)
    | (show (_ : List (Int × List Int)) = _; rw [cls1 (by assumption)])
    | (show (_ : Int) = _; rw [cls1 (by assumption)])
    | (show (_ : List (Int × List Int)) = _; rw [cls2 (by assumption) (show lv.length = 1 by omega)])
    | (show (if er = 0 then (17 : Int) else er) = _; rw [cls2 (by assumption) (show lv.length = 1 by omega), if_pos (by assumption)])
    | (rw [hwt]; exact (hl.mark (by omega)).1)
    | (rw [hwt]; exact (hl.mark (by omega)).2)
    | (rw [hwt]; exact hl.get (by omega))
    | (rw [hwt]; exact hl.take (by omega))
    | (show (_ : List (Int × List Int)) = _; rw [hwt, cls3 (by assumption) (show ¬ lv.length = 1 by omega)]; rfl)
    | (show (_ : Int) = _; rw [hwt, cls3 (by assumption) (show ¬ lv.length = 1 by omega)]; rfl)
    | trace_state
end Go.AX
