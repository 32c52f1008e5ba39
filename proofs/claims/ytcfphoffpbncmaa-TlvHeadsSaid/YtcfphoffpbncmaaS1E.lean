/- What the executor is told of the types of this program. -/
import Derived.Test.YtcfphoffpbncmaaProg
import Derived.Test.YtcfphoffpbncmaaAXA17
set_option linter.unusedVariables false
namespace Go.AX
open Go.Proofs
def fieldsOf : TypeDesc → Array Field
  | .struct fs => fs
  | _ => #[]
def methodsOf : TypeDesc → Array (String × TypeId)
  | .interface ms => ms
  | _ => #[]
def EV : Env where
  slice := fun
    | 22 => some (5, (.one (.int .u8)), 1)
    | 26 => some (89, (.one (.sl 88 (.cons (.sl 111 (.one (.int .u32))) (.cons (.int .u8) (.one (.sl 5 (.one (.int .u8)))))))), 24)
    | 27 => some (89, (.one (.sl 88 (.cons (.sl 111 (.one (.int .u32))) (.cons (.int .u8) (.one (.sl 5 (.one (.int .u8)))))))), 24)
    | 39 => some (45, (.cons (.int .i64) (.cons (.int .u8) (.one (.sl 5 (.one (.int .u8)))))), 40)
    | 58 => some (22, (.one (.sl 5 (.one (.int .u8)))), 24)
    | 65 => some (111, (.one (.int .u32)), 4)
    | 66 => some (111, (.one (.int .u32)), 4)
    | 77 => some (3, (.one (.int .i64)), 8)
    | 78 => some (3, (.one (.int .i64)), 8)
    | 89 => some (88, (.cons (.sl 111 (.one (.int .u32))) (.cons (.int .u8) (.one (.sl 5 (.one (.int .u8)))))), 56)
    | 94 => some (101, (.cons (.int .u8) (.one (.sl 5 (.one (.int .u8))))), 32)
    | 150 => some (65, (.one (.sl 111 (.one (.int .u32)))), 24)
    | _ => none
  var := fun
    | 2 => some (false, 1)
    | 3 => some (false, 1)
    | 4 => some (false, 1)
    | 5 => some (false, 1)
    | 9 => some (false, 1)
    | 22 => some (false, 1)
    | 26 => some (false, 1)
    | 27 => some (false, 1)
    | 31 => some (false, 1)
    | 32 => some (false, 1)
    | 36 => some (false, 1)
    | 39 => some (false, 1)
    | 40 => some (false, 1)
    | 42 => some (false, 1)
    | 44 => some (true, 3)
    | 45 => some (true, 3)
    | 54 => some (false, 1)
    | 58 => some (false, 1)
    | 65 => some (false, 1)
    | 66 => some (false, 1)
    | 67 => some (true, 2)
    | 68 => some (true, 2)
    | 77 => some (false, 1)
    | 78 => some (false, 1)
    | 87 => some (true, 3)
    | 88 => some (true, 3)
    | 89 => some (false, 1)
    | 93 => some (false, 1)
    | 94 => some (false, 1)
    | 95 => some (true, 2)
    | 96 => some (true, 2)
    | 97 => some (true, 3)
    | 98 => some (true, 3)
    | 100 => some (true, 2)
    | 101 => some (true, 2)
    | 102 => some (true, 3)
    | 103 => some (true, 3)
    | 111 => some (false, 1)
    | 114 => some (true, 6)
    | 115 => some (true, 6)
    | 124 => some (false, 1)
    | 141 => some (false, 1)
    | 142 => some (false, 1)
    | 150 => some (false, 1)
    | 176 => some (false, 1)
    | _ => none
  fld := fun
    | 44, 0 => some (0, false, 1)
    | 44, 1 => some (1, false, 1)
    | 44, 2 => some (2, false, 1)
    | 45, 0 => some (0, false, 1)
    | 45, 1 => some (1, false, 1)
    | 45, 2 => some (2, false, 1)
    | 67, 0 => some (0, false, 1)
    | 67, 1 => some (1, false, 1)
    | 68, 0 => some (0, false, 1)
    | 68, 1 => some (1, false, 1)
    | 87, 0 => some (0, false, 1)
    | 87, 1 => some (1, false, 1)
    | 87, 2 => some (2, false, 1)
    | 88, 0 => some (0, false, 1)
    | 88, 1 => some (1, false, 1)
    | 88, 2 => some (2, false, 1)
    | 95, 0 => some (0, false, 1)
    | 95, 1 => some (1, false, 1)
    | 96, 0 => some (0, false, 1)
    | 96, 1 => some (1, false, 1)
    | 97, 0 => some (0, false, 1)
    | 97, 1 => some (1, false, 1)
    | 97, 2 => some (2, false, 1)
    | 98, 0 => some (0, false, 1)
    | 98, 1 => some (1, false, 1)
    | 98, 2 => some (2, false, 1)
    | 100, 0 => some (0, false, 1)
    | 100, 1 => some (1, false, 1)
    | 101, 0 => some (0, false, 1)
    | 101, 1 => some (1, false, 1)
    | 102, 0 => some (0, false, 1)
    | 102, 1 => some (1, false, 1)
    | 102, 2 => some (2, false, 1)
    | 103, 0 => some (0, false, 1)
    | 103, 1 => some (1, false, 1)
    | 103, 2 => some (2, false, 1)
    | 114, 0 => some (0, false, 1)
    | 114, 1 => some (1, false, 1)
    | 114, 2 => some (2, false, 1)
    | 114, 3 => some (3, false, 1)
    | 114, 4 => some (4, false, 1)
    | 114, 5 => some (5, false, 1)
    | 115, 0 => some (0, false, 1)
    | 115, 1 => some (1, false, 1)
    | 115, 2 => some (2, false, 1)
    | 115, 3 => some (3, false, 1)
    | 115, 4 => some (4, false, 1)
    | 115, 5 => some (5, false, 1)
    | _, _ => none
  zero := fun
    | 2 => some [Go.Value.int Go.IntKind.i64 0]
    | 3 => some [Go.Value.int Go.IntKind.i64 0]
    | 4 => some [Go.Value.bool false]
    | 5 => some [Go.Value.int Go.IntKind.u8 0]
    | 9 => some [Go.Value.string { data := #[] }]
    | 22 => some [Go.Value.slice none 0 0]
    | 26 => some [Go.Value.slice none 0 0]
    | 27 => some [Go.Value.slice none 0 0]
    | 31 => some [Go.Value.nilIface]
    | 32 => some [Go.Value.nilIface]
    | 36 => some [Go.Value.int Go.IntKind.i64 0]
    | 39 => some [Go.Value.slice none 0 0]
    | 40 => some [Go.Value.pointer none]
    | 42 => some [Go.Value.pointer none]
    | 44 => some [Go.Value.int Go.IntKind.i64 0, Go.Value.int Go.IntKind.u8 0, Go.Value.slice none 0 0]
    | 45 => some [Go.Value.int Go.IntKind.i64 0, Go.Value.int Go.IntKind.u8 0, Go.Value.slice none 0 0]
    | 54 => some [Go.Value.pointer none]
    | 58 => some [Go.Value.slice none 0 0]
    | 65 => some [Go.Value.slice none 0 0]
    | 66 => some [Go.Value.slice none 0 0]
    | 67 => some [Go.Value.slice none 0 0, Go.Value.int Go.IntKind.i64 0]
    | 68 => some [Go.Value.slice none 0 0, Go.Value.int Go.IntKind.i64 0]
    | 77 => some [Go.Value.slice none 0 0]
    | 78 => some [Go.Value.slice none 0 0]
    | 87 => some [Go.Value.slice none 0 0, Go.Value.int Go.IntKind.u8 0, Go.Value.slice none 0 0]
    | 88 => some [Go.Value.slice none 0 0, Go.Value.int Go.IntKind.u8 0, Go.Value.slice none 0 0]
    | 89 => some [Go.Value.slice none 0 0]
    | 93 => some [Go.Value.int Go.IntKind.u64 0]
    | 94 => some [Go.Value.slice none 0 0]
    | 95 => some [Go.Value.slice none 0 0, Go.Value.nilIface]
    | 96 => some [Go.Value.slice none 0 0, Go.Value.nilIface]
    | 97 => some [Go.Value.slice none 0 0, Go.Value.slice none 0 0, Go.Value.int Go.IntKind.i64 0]
    | 98 => some [Go.Value.slice none 0 0, Go.Value.slice none 0 0, Go.Value.int Go.IntKind.i64 0]
    | 100 => some [Go.Value.int Go.IntKind.u8 0, Go.Value.slice none 0 0]
    | 101 => some [Go.Value.int Go.IntKind.u8 0, Go.Value.slice none 0 0]
    | 102 => some [Go.Value.slice none 0 0, Go.Value.int Go.IntKind.i64 0, Go.Value.slice none 0 0]
    | 103 => some [Go.Value.slice none 0 0, Go.Value.int Go.IntKind.i64 0, Go.Value.slice none 0 0]
    | 111 => some [Go.Value.int Go.IntKind.u32 0]
    | 114 => some [Go.Value.int Go.IntKind.i64 0, Go.Value.int Go.IntKind.i64 0, Go.Value.int Go.IntKind.i64 0, Go.Value.int Go.IntKind.i64 0, Go.Value.int Go.IntKind.i64 0, Go.Value.int Go.IntKind.i64 0]
    | 115 => some [Go.Value.int Go.IntKind.i64 0, Go.Value.int Go.IntKind.i64 0, Go.Value.int Go.IntKind.i64 0, Go.Value.int Go.IntKind.i64 0, Go.Value.int Go.IntKind.i64 0, Go.Value.int Go.IntKind.i64 0]
    | 124 => some [Go.Value.int Go.IntKind.u64 0]
    | 141 => some [Go.Value.pointer none]
    | 142 => some [Go.Value.int Go.IntKind.i8 0]
    | 150 => some [Go.Value.slice none 0 0]
    | 176 => some [Go.Value.pointer none]
    | _ => none
  strct := fun
    | 44 => some [(0, 1), (1, 1), (2, 1)]
    | 45 => some [(0, 1), (1, 1), (2, 1)]
    | 67 => some [(0, 1), (1, 1)]
    | 68 => some [(0, 1), (1, 1)]
    | 87 => some [(0, 1), (1, 1), (2, 1)]
    | 88 => some [(0, 1), (1, 1), (2, 1)]
    | 95 => some [(0, 1), (1, 1)]
    | 96 => some [(0, 1), (1, 1)]
    | 97 => some [(0, 1), (1, 1), (2, 1)]
    | 98 => some [(0, 1), (1, 1), (2, 1)]
    | 100 => some [(0, 1), (1, 1)]
    | 101 => some [(0, 1), (1, 1)]
    | 102 => some [(0, 1), (1, 1), (2, 1)]
    | 103 => some [(0, 1), (1, 1), (2, 1)]
    | 114 => some [(0, 1), (1, 1), (2, 1), (3, 1), (4, 1), (5, 1)]
    | 115 => some [(0, 1), (1, 1), (2, 1), (3, 1), (4, 1), (5, 1)]
    | _ => none
  conv := fun
    | 2, 5 => .int .u8
    | 3, 5 => .int .u8
    | 3, 93 => .int .u64
    | 3, 111 => .int .u32
    | 5, 2 => .int .i64
    | 5, 3 => .int .i64
    | 5, 111 => .int .u32
    | 5, 124 => .int .u64
    | 5, 142 => .int .i8
    | 22, 9 => .toStr
    | 22, 22 => .mark
    | 93, 3 => .int .i64
    | 111, 3 => .int .i64
    | 111, 5 => .int .u8
    | 111, 124 => .int .u64
    | 124, 111 => .int .u32
    | 142, 2 => .int .i64
    | _, _ => .no
  conc := fun
    | 36 => true
    | _ => false
  str := fun
    | 9 => true
    | _ => false
  row := fun
    | 44 => some (.cons (.int .i64) (.cons (.int .u8) (.one (.sl 5 (.one (.int .u8))))))
    | 45 => some (.cons (.int .i64) (.cons (.int .u8) (.one (.sl 5 (.one (.int .u8))))))
    | 67 => some (.cons (.sl 5 (.one (.int .u8))) (.one (.int .i64)))
    | 68 => some (.cons (.sl 5 (.one (.int .u8))) (.one (.int .i64)))
    | 87 => some (.cons (.sl 111 (.one (.int .u32))) (.cons (.int .u8) (.one (.sl 5 (.one (.int .u8))))))
    | 88 => some (.cons (.sl 111 (.one (.int .u32))) (.cons (.int .u8) (.one (.sl 5 (.one (.int .u8))))))
    | 97 => some (.cons (.sl 5 (.one (.int .u8))) (.cons (.sl 22 (.one (.sl 5 (.one (.int .u8))))) (.one (.int .i64))))
    | 98 => some (.cons (.sl 5 (.one (.int .u8))) (.cons (.sl 22 (.one (.sl 5 (.one (.int .u8))))) (.one (.int .i64))))
    | 100 => some (.cons (.int .u8) (.one (.sl 5 (.one (.int .u8)))))
    | 101 => some (.cons (.int .u8) (.one (.sl 5 (.one (.int .u8)))))
    | 102 => some (.cons (.sl 5 (.one (.int .u8))) (.cons (.int .i64) (.one (.sl 3 (.one (.int .i64))))))
    | 103 => some (.cons (.sl 5 (.one (.int .u8))) (.cons (.int .i64) (.one (.sl 3 (.one (.int .i64))))))
    | 114 => some (.cons (.int .i64) (.cons (.int .i64) (.cons (.int .i64) (.cons (.int .i64) (.cons (.int .i64) (.one (.int .i64)))))))
    | 115 => some (.cons (.int .i64) (.cons (.int .i64) (.cons (.int .i64) (.cons (.int .i64) (.cons (.int .i64) (.one (.int .i64)))))))
    | _ => none
  bool := fun
    | 4 => true
    | _ => false
  ifc := fun
    | 31 => true
    | 32 => true
    | _ => false
  nest := fun
    | 94 => some (some .u8, 5, .one (.int .u8))
    | _ => none
  err := fun
    | 36 => true
    | _ => false
  ptr := fun
    | 40 => true
    | 42 => true
    | 54 => true
    | _ => false
set_option maxRecDepth 100000
set_option maxHeartbeats 4000000
theorem EV_ok : EnvOk Try.prog EV where
  slice := by
    intro t e r b h
    unfold EV at h
    dsimp only at h
    split at h
    · cases h; exact ⟨by kernel_rfl, Go.Proofs.Try.t5, _, by kernel_rfl, rfl, rfl, rfl, rfl, by decide⟩
    · cases h; exact ⟨by kernel_rfl, Go.Proofs.Try.t89, _, by kernel_rfl, rfl, rfl, rfl, rfl, by decide⟩
    · cases h; exact ⟨by kernel_rfl, Go.Proofs.Try.t89, _, by kernel_rfl, rfl, rfl, rfl, rfl, by decide⟩
    · cases h; exact ⟨by kernel_rfl, Go.Proofs.Try.t45, _, by kernel_rfl, rfl, rfl, rfl, rfl, by decide⟩
    · cases h; exact ⟨by kernel_rfl, Go.Proofs.Try.t22, _, by kernel_rfl, rfl, rfl, rfl, rfl, by decide⟩
    · cases h; exact ⟨by kernel_rfl, Go.Proofs.Try.t111, _, by kernel_rfl, rfl, rfl, rfl, rfl, by decide⟩
    · cases h; exact ⟨by kernel_rfl, Go.Proofs.Try.t111, _, by kernel_rfl, rfl, rfl, rfl, rfl, by decide⟩
    · cases h; exact ⟨by kernel_rfl, Go.Proofs.Try.t3, _, by kernel_rfl, rfl, rfl, rfl, rfl, by decide⟩
    · cases h; exact ⟨by kernel_rfl, Go.Proofs.Try.t3, _, by kernel_rfl, rfl, rfl, rfl, rfl, by decide⟩
    · cases h; exact ⟨by kernel_rfl, Go.Proofs.Try.t88, _, by kernel_rfl, rfl, rfl, rfl, rfl, by decide⟩
    · cases h; exact ⟨by kernel_rfl, Go.Proofs.Try.t101, _, by kernel_rfl, rfl, rfl, rfl, rfl, by decide⟩
    · cases h; exact ⟨by kernel_rfl, Go.Proofs.Try.t65, _, by kernel_rfl, rfl, rfl, rfl, rfl, by decide⟩
    · cases h
  var := by
    intro t agg n h
    unfold EV at h
    dsimp only at h
    split at h
    · cases h; exact ⟨_, Go.Proofs.Try.t2, (by kernel_rfl : Try.prog.underlying 2 = some (Go.Proofs.Try.t2.desc)), rfl, by kernel_rfl, rfl⟩
    · cases h; exact ⟨_, Go.Proofs.Try.t3, (by kernel_rfl : Try.prog.underlying 3 = some (Go.Proofs.Try.t3.desc)), rfl, by kernel_rfl, rfl⟩
    · cases h; exact ⟨_, Go.Proofs.Try.t4, (by kernel_rfl : Try.prog.underlying 4 = some (Go.Proofs.Try.t4.desc)), rfl, by kernel_rfl, rfl⟩
    · cases h; exact ⟨_, Go.Proofs.Try.t5, (by kernel_rfl : Try.prog.underlying 5 = some (Go.Proofs.Try.t5.desc)), rfl, by kernel_rfl, rfl⟩
    · cases h; exact ⟨_, Go.Proofs.Try.t9, (by kernel_rfl : Try.prog.underlying 9 = some (Go.Proofs.Try.t9.desc)), rfl, by kernel_rfl, rfl⟩
    · cases h; exact ⟨_, Go.Proofs.Try.t22, (by kernel_rfl : Try.prog.underlying 22 = some (Go.Proofs.Try.t22.desc)), rfl, by kernel_rfl, rfl⟩
    · cases h; exact ⟨_, Go.Proofs.Try.t26, (by kernel_rfl : Try.prog.underlying 26 = some (Go.Proofs.Try.t26.desc)), rfl, by kernel_rfl, rfl⟩
    · cases h; exact ⟨_, Go.Proofs.Try.t27, (by kernel_rfl : Try.prog.underlying 27 = some (Go.Proofs.Try.t26.desc)), rfl, by kernel_rfl, rfl⟩
    · cases h; exact ⟨_, Go.Proofs.Try.t31, (by kernel_rfl : Try.prog.underlying 31 = some (Go.Proofs.Try.t31.desc)), rfl, by kernel_rfl, rfl⟩
    · cases h; exact ⟨_, Go.Proofs.Try.t32, (by kernel_rfl : Try.prog.underlying 32 = some (Go.Proofs.Try.t31.desc)), rfl, by kernel_rfl, rfl⟩
    · cases h; exact ⟨_, Go.Proofs.Try.t36, (by kernel_rfl : Try.prog.underlying 36 = some (Go.Proofs.Try.t3.desc)), rfl, by kernel_rfl, rfl⟩
    · cases h; exact ⟨_, Go.Proofs.Try.t39, (by kernel_rfl : Try.prog.underlying 39 = some (Go.Proofs.Try.t39.desc)), rfl, by kernel_rfl, rfl⟩
    · cases h; exact ⟨_, Go.Proofs.Try.t40, (by kernel_rfl : Try.prog.underlying 40 = some (Go.Proofs.Try.t40.desc)), rfl, by kernel_rfl, rfl⟩
    · cases h; exact ⟨_, Go.Proofs.Try.t42, (by kernel_rfl : Try.prog.underlying 42 = some (Go.Proofs.Try.t42.desc)), rfl, by kernel_rfl, rfl⟩
    · cases h; exact ⟨_, Go.Proofs.Try.t44, (by kernel_rfl : Try.prog.underlying 44 = some (.struct (fieldsOf Go.Proofs.Try.t44.desc))), rfl, by kernel_rfl, rfl⟩
    · cases h; exact ⟨_, Go.Proofs.Try.t45, (by kernel_rfl : Try.prog.underlying 45 = some (.struct (fieldsOf Go.Proofs.Try.t44.desc))), rfl, by kernel_rfl, rfl⟩
    · cases h; exact ⟨_, Go.Proofs.Try.t54, (by kernel_rfl : Try.prog.underlying 54 = some (Go.Proofs.Try.t54.desc)), rfl, by kernel_rfl, rfl⟩
    · cases h; exact ⟨_, Go.Proofs.Try.t58, (by kernel_rfl : Try.prog.underlying 58 = some (Go.Proofs.Try.t58.desc)), rfl, by kernel_rfl, rfl⟩
    · cases h; exact ⟨_, Go.Proofs.Try.t65, (by kernel_rfl : Try.prog.underlying 65 = some (Go.Proofs.Try.t65.desc)), rfl, by kernel_rfl, rfl⟩
    · cases h; exact ⟨_, Go.Proofs.Try.t66, (by kernel_rfl : Try.prog.underlying 66 = some (Go.Proofs.Try.t65.desc)), rfl, by kernel_rfl, rfl⟩
    · cases h; exact ⟨_, Go.Proofs.Try.t67, (by kernel_rfl : Try.prog.underlying 67 = some (.struct (fieldsOf Go.Proofs.Try.t67.desc))), rfl, by kernel_rfl, rfl⟩
    · cases h; exact ⟨_, Go.Proofs.Try.t68, (by kernel_rfl : Try.prog.underlying 68 = some (.struct (fieldsOf Go.Proofs.Try.t67.desc))), rfl, by kernel_rfl, rfl⟩
    · cases h; exact ⟨_, Go.Proofs.Try.t77, (by kernel_rfl : Try.prog.underlying 77 = some (Go.Proofs.Try.t77.desc)), rfl, by kernel_rfl, rfl⟩
    · cases h; exact ⟨_, Go.Proofs.Try.t78, (by kernel_rfl : Try.prog.underlying 78 = some (Go.Proofs.Try.t77.desc)), rfl, by kernel_rfl, rfl⟩
    · cases h; exact ⟨_, Go.Proofs.Try.t87, (by kernel_rfl : Try.prog.underlying 87 = some (.struct (fieldsOf Go.Proofs.Try.t87.desc))), rfl, by kernel_rfl, rfl⟩
    · cases h; exact ⟨_, Go.Proofs.Try.t88, (by kernel_rfl : Try.prog.underlying 88 = some (.struct (fieldsOf Go.Proofs.Try.t87.desc))), rfl, by kernel_rfl, rfl⟩
    · cases h; exact ⟨_, Go.Proofs.Try.t89, (by kernel_rfl : Try.prog.underlying 89 = some (Go.Proofs.Try.t89.desc)), rfl, by kernel_rfl, rfl⟩
    · cases h; exact ⟨_, Go.Proofs.Try.t93, (by kernel_rfl : Try.prog.underlying 93 = some (Go.Proofs.Try.t93.desc)), rfl, by kernel_rfl, rfl⟩
    · cases h; exact ⟨_, Go.Proofs.Try.t94, (by kernel_rfl : Try.prog.underlying 94 = some (Go.Proofs.Try.t94.desc)), rfl, by kernel_rfl, rfl⟩
    · cases h; exact ⟨_, Go.Proofs.Try.t95, (by kernel_rfl : Try.prog.underlying 95 = some (.struct (fieldsOf Go.Proofs.Try.t95.desc))), rfl, by kernel_rfl, rfl⟩
    · cases h; exact ⟨_, Go.Proofs.Try.t96, (by kernel_rfl : Try.prog.underlying 96 = some (.struct (fieldsOf Go.Proofs.Try.t95.desc))), rfl, by kernel_rfl, rfl⟩
    · cases h; exact ⟨_, Go.Proofs.Try.t97, (by kernel_rfl : Try.prog.underlying 97 = some (.struct (fieldsOf Go.Proofs.Try.t97.desc))), rfl, by kernel_rfl, rfl⟩
    · cases h; exact ⟨_, Go.Proofs.Try.t98, (by kernel_rfl : Try.prog.underlying 98 = some (.struct (fieldsOf Go.Proofs.Try.t97.desc))), rfl, by kernel_rfl, rfl⟩
    · cases h; exact ⟨_, Go.Proofs.Try.t100, (by kernel_rfl : Try.prog.underlying 100 = some (.struct (fieldsOf Go.Proofs.Try.t100.desc))), rfl, by kernel_rfl, rfl⟩
    · cases h; exact ⟨_, Go.Proofs.Try.t101, (by kernel_rfl : Try.prog.underlying 101 = some (.struct (fieldsOf Go.Proofs.Try.t100.desc))), rfl, by kernel_rfl, rfl⟩
    · cases h; exact ⟨_, Go.Proofs.Try.t102, (by kernel_rfl : Try.prog.underlying 102 = some (.struct (fieldsOf Go.Proofs.Try.t102.desc))), rfl, by kernel_rfl, rfl⟩
    · cases h; exact ⟨_, Go.Proofs.Try.t103, (by kernel_rfl : Try.prog.underlying 103 = some (.struct (fieldsOf Go.Proofs.Try.t102.desc))), rfl, by kernel_rfl, rfl⟩
    · cases h; exact ⟨_, Go.Proofs.Try.t111, (by kernel_rfl : Try.prog.underlying 111 = some (Go.Proofs.Try.t111.desc)), rfl, by kernel_rfl, rfl⟩
    · cases h; exact ⟨_, Go.Proofs.Try.t114, (by kernel_rfl : Try.prog.underlying 114 = some (.struct (fieldsOf Go.Proofs.Try.t114.desc))), rfl, by kernel_rfl, rfl⟩
    · cases h; exact ⟨_, Go.Proofs.Try.t115, (by kernel_rfl : Try.prog.underlying 115 = some (.struct (fieldsOf Go.Proofs.Try.t114.desc))), rfl, by kernel_rfl, rfl⟩
    · cases h; exact ⟨_, Go.Proofs.Try.t124, (by kernel_rfl : Try.prog.underlying 124 = some (Go.Proofs.Try.t124.desc)), rfl, by kernel_rfl, rfl⟩
    · cases h; exact ⟨_, Go.Proofs.Try.t141, (by kernel_rfl : Try.prog.underlying 141 = some (Go.Proofs.Try.t141.desc)), rfl, by kernel_rfl, rfl⟩
    · cases h; exact ⟨_, Go.Proofs.Try.t142, (by kernel_rfl : Try.prog.underlying 142 = some (Go.Proofs.Try.t142.desc)), rfl, by kernel_rfl, rfl⟩
    · cases h; exact ⟨_, Go.Proofs.Try.t150, (by kernel_rfl : Try.prog.underlying 150 = some (Go.Proofs.Try.t150.desc)), rfl, by kernel_rfl, rfl⟩
    · cases h; exact ⟨_, Go.Proofs.Try.t176, (by kernel_rfl : Try.prog.underlying 176 = some (Go.Proofs.Try.t176.desc)), rfl, by kernel_rfl, rfl⟩
    · cases h
  fld := by
    intro t f o agg n h
    unfold EV at h
    dsimp only at h
    split at h
    · cases h; exact ⟨_, _, Go.Proofs.Try.t3.desc, Go.Proofs.Try.t3, (by kernel_rfl : Try.prog.underlying 44 = some (.struct (fieldsOf Go.Proofs.Try.t44.desc))), rfl, rfl, by kernel_rfl, rfl, by kernel_rfl, rfl, by decide⟩
    · cases h; exact ⟨_, _, Go.Proofs.Try.t5.desc, Go.Proofs.Try.t5, (by kernel_rfl : Try.prog.underlying 44 = some (.struct (fieldsOf Go.Proofs.Try.t44.desc))), rfl, rfl, by kernel_rfl, rfl, by kernel_rfl, rfl, by decide⟩
    · cases h; exact ⟨_, _, Go.Proofs.Try.t22.desc, Go.Proofs.Try.t22, (by kernel_rfl : Try.prog.underlying 44 = some (.struct (fieldsOf Go.Proofs.Try.t44.desc))), rfl, rfl, by kernel_rfl, rfl, by kernel_rfl, rfl, by decide⟩
    · cases h; exact ⟨_, _, Go.Proofs.Try.t3.desc, Go.Proofs.Try.t3, (by kernel_rfl : Try.prog.underlying 45 = some (.struct (fieldsOf Go.Proofs.Try.t44.desc))), rfl, rfl, by kernel_rfl, rfl, by kernel_rfl, rfl, by decide⟩
    · cases h; exact ⟨_, _, Go.Proofs.Try.t5.desc, Go.Proofs.Try.t5, (by kernel_rfl : Try.prog.underlying 45 = some (.struct (fieldsOf Go.Proofs.Try.t44.desc))), rfl, rfl, by kernel_rfl, rfl, by kernel_rfl, rfl, by decide⟩
    · cases h; exact ⟨_, _, Go.Proofs.Try.t22.desc, Go.Proofs.Try.t22, (by kernel_rfl : Try.prog.underlying 45 = some (.struct (fieldsOf Go.Proofs.Try.t44.desc))), rfl, rfl, by kernel_rfl, rfl, by kernel_rfl, rfl, by decide⟩
    · cases h; exact ⟨_, _, Go.Proofs.Try.t22.desc, Go.Proofs.Try.t22, (by kernel_rfl : Try.prog.underlying 67 = some (.struct (fieldsOf Go.Proofs.Try.t67.desc))), rfl, rfl, by kernel_rfl, rfl, by kernel_rfl, rfl, by decide⟩
    · cases h; exact ⟨_, _, Go.Proofs.Try.t3.desc, Go.Proofs.Try.t3, (by kernel_rfl : Try.prog.underlying 67 = some (.struct (fieldsOf Go.Proofs.Try.t67.desc))), rfl, rfl, by kernel_rfl, rfl, by kernel_rfl, rfl, by decide⟩
    · cases h; exact ⟨_, _, Go.Proofs.Try.t22.desc, Go.Proofs.Try.t22, (by kernel_rfl : Try.prog.underlying 68 = some (.struct (fieldsOf Go.Proofs.Try.t67.desc))), rfl, rfl, by kernel_rfl, rfl, by kernel_rfl, rfl, by decide⟩
    · cases h; exact ⟨_, _, Go.Proofs.Try.t3.desc, Go.Proofs.Try.t3, (by kernel_rfl : Try.prog.underlying 68 = some (.struct (fieldsOf Go.Proofs.Try.t67.desc))), rfl, rfl, by kernel_rfl, rfl, by kernel_rfl, rfl, by decide⟩
    · cases h; exact ⟨_, _, Go.Proofs.Try.t65.desc, Go.Proofs.Try.t65, (by kernel_rfl : Try.prog.underlying 87 = some (.struct (fieldsOf Go.Proofs.Try.t87.desc))), rfl, rfl, by kernel_rfl, rfl, by kernel_rfl, rfl, by decide⟩
    · cases h; exact ⟨_, _, Go.Proofs.Try.t5.desc, Go.Proofs.Try.t5, (by kernel_rfl : Try.prog.underlying 87 = some (.struct (fieldsOf Go.Proofs.Try.t87.desc))), rfl, rfl, by kernel_rfl, rfl, by kernel_rfl, rfl, by decide⟩
    · cases h; exact ⟨_, _, Go.Proofs.Try.t22.desc, Go.Proofs.Try.t22, (by kernel_rfl : Try.prog.underlying 87 = some (.struct (fieldsOf Go.Proofs.Try.t87.desc))), rfl, rfl, by kernel_rfl, rfl, by kernel_rfl, rfl, by decide⟩
    · cases h; exact ⟨_, _, Go.Proofs.Try.t65.desc, Go.Proofs.Try.t65, (by kernel_rfl : Try.prog.underlying 88 = some (.struct (fieldsOf Go.Proofs.Try.t87.desc))), rfl, rfl, by kernel_rfl, rfl, by kernel_rfl, rfl, by decide⟩
    · cases h; exact ⟨_, _, Go.Proofs.Try.t5.desc, Go.Proofs.Try.t5, (by kernel_rfl : Try.prog.underlying 88 = some (.struct (fieldsOf Go.Proofs.Try.t87.desc))), rfl, rfl, by kernel_rfl, rfl, by kernel_rfl, rfl, by decide⟩
    · cases h; exact ⟨_, _, Go.Proofs.Try.t22.desc, Go.Proofs.Try.t22, (by kernel_rfl : Try.prog.underlying 88 = some (.struct (fieldsOf Go.Proofs.Try.t87.desc))), rfl, rfl, by kernel_rfl, rfl, by kernel_rfl, rfl, by decide⟩
    · cases h; exact ⟨_, _, Go.Proofs.Try.t94.desc, Go.Proofs.Try.t94, (by kernel_rfl : Try.prog.underlying 95 = some (.struct (fieldsOf Go.Proofs.Try.t95.desc))), rfl, rfl, by kernel_rfl, rfl, by kernel_rfl, rfl, by decide⟩
    · cases h; exact ⟨_, _, Go.Proofs.Try.t31.desc, Go.Proofs.Try.t32, (by kernel_rfl : Try.prog.underlying 95 = some (.struct (fieldsOf Go.Proofs.Try.t95.desc))), rfl, rfl, by kernel_rfl, rfl, by kernel_rfl, rfl, by decide⟩
    · cases h; exact ⟨_, _, Go.Proofs.Try.t94.desc, Go.Proofs.Try.t94, (by kernel_rfl : Try.prog.underlying 96 = some (.struct (fieldsOf Go.Proofs.Try.t95.desc))), rfl, rfl, by kernel_rfl, rfl, by kernel_rfl, rfl, by decide⟩
    · cases h; exact ⟨_, _, Go.Proofs.Try.t31.desc, Go.Proofs.Try.t32, (by kernel_rfl : Try.prog.underlying 96 = some (.struct (fieldsOf Go.Proofs.Try.t95.desc))), rfl, rfl, by kernel_rfl, rfl, by kernel_rfl, rfl, by decide⟩
    · cases h; exact ⟨_, _, Go.Proofs.Try.t22.desc, Go.Proofs.Try.t22, (by kernel_rfl : Try.prog.underlying 97 = some (.struct (fieldsOf Go.Proofs.Try.t97.desc))), rfl, rfl, by kernel_rfl, rfl, by kernel_rfl, rfl, by decide⟩
    · cases h; exact ⟨_, _, Go.Proofs.Try.t58.desc, Go.Proofs.Try.t58, (by kernel_rfl : Try.prog.underlying 97 = some (.struct (fieldsOf Go.Proofs.Try.t97.desc))), rfl, rfl, by kernel_rfl, rfl, by kernel_rfl, rfl, by decide⟩
    · cases h; exact ⟨_, _, Go.Proofs.Try.t3.desc, Go.Proofs.Try.t3, (by kernel_rfl : Try.prog.underlying 97 = some (.struct (fieldsOf Go.Proofs.Try.t97.desc))), rfl, rfl, by kernel_rfl, rfl, by kernel_rfl, rfl, by decide⟩
    · cases h; exact ⟨_, _, Go.Proofs.Try.t22.desc, Go.Proofs.Try.t22, (by kernel_rfl : Try.prog.underlying 98 = some (.struct (fieldsOf Go.Proofs.Try.t97.desc))), rfl, rfl, by kernel_rfl, rfl, by kernel_rfl, rfl, by decide⟩
    · cases h; exact ⟨_, _, Go.Proofs.Try.t58.desc, Go.Proofs.Try.t58, (by kernel_rfl : Try.prog.underlying 98 = some (.struct (fieldsOf Go.Proofs.Try.t97.desc))), rfl, rfl, by kernel_rfl, rfl, by kernel_rfl, rfl, by decide⟩
    · cases h; exact ⟨_, _, Go.Proofs.Try.t3.desc, Go.Proofs.Try.t3, (by kernel_rfl : Try.prog.underlying 98 = some (.struct (fieldsOf Go.Proofs.Try.t97.desc))), rfl, rfl, by kernel_rfl, rfl, by kernel_rfl, rfl, by decide⟩
    · cases h; exact ⟨_, _, Go.Proofs.Try.t5.desc, Go.Proofs.Try.t5, (by kernel_rfl : Try.prog.underlying 100 = some (.struct (fieldsOf Go.Proofs.Try.t100.desc))), rfl, rfl, by kernel_rfl, rfl, by kernel_rfl, rfl, by decide⟩
    · cases h; exact ⟨_, _, Go.Proofs.Try.t22.desc, Go.Proofs.Try.t22, (by kernel_rfl : Try.prog.underlying 100 = some (.struct (fieldsOf Go.Proofs.Try.t100.desc))), rfl, rfl, by kernel_rfl, rfl, by kernel_rfl, rfl, by decide⟩
    · cases h; exact ⟨_, _, Go.Proofs.Try.t5.desc, Go.Proofs.Try.t5, (by kernel_rfl : Try.prog.underlying 101 = some (.struct (fieldsOf Go.Proofs.Try.t100.desc))), rfl, rfl, by kernel_rfl, rfl, by kernel_rfl, rfl, by decide⟩
    · cases h; exact ⟨_, _, Go.Proofs.Try.t22.desc, Go.Proofs.Try.t22, (by kernel_rfl : Try.prog.underlying 101 = some (.struct (fieldsOf Go.Proofs.Try.t100.desc))), rfl, rfl, by kernel_rfl, rfl, by kernel_rfl, rfl, by decide⟩
    · cases h; exact ⟨_, _, Go.Proofs.Try.t22.desc, Go.Proofs.Try.t22, (by kernel_rfl : Try.prog.underlying 102 = some (.struct (fieldsOf Go.Proofs.Try.t102.desc))), rfl, rfl, by kernel_rfl, rfl, by kernel_rfl, rfl, by decide⟩
    · cases h; exact ⟨_, _, Go.Proofs.Try.t3.desc, Go.Proofs.Try.t3, (by kernel_rfl : Try.prog.underlying 102 = some (.struct (fieldsOf Go.Proofs.Try.t102.desc))), rfl, rfl, by kernel_rfl, rfl, by kernel_rfl, rfl, by decide⟩
    · cases h; exact ⟨_, _, Go.Proofs.Try.t77.desc, Go.Proofs.Try.t77, (by kernel_rfl : Try.prog.underlying 102 = some (.struct (fieldsOf Go.Proofs.Try.t102.desc))), rfl, rfl, by kernel_rfl, rfl, by kernel_rfl, rfl, by decide⟩
    · cases h; exact ⟨_, _, Go.Proofs.Try.t22.desc, Go.Proofs.Try.t22, (by kernel_rfl : Try.prog.underlying 103 = some (.struct (fieldsOf Go.Proofs.Try.t102.desc))), rfl, rfl, by kernel_rfl, rfl, by kernel_rfl, rfl, by decide⟩
    · cases h; exact ⟨_, _, Go.Proofs.Try.t3.desc, Go.Proofs.Try.t3, (by kernel_rfl : Try.prog.underlying 103 = some (.struct (fieldsOf Go.Proofs.Try.t102.desc))), rfl, rfl, by kernel_rfl, rfl, by kernel_rfl, rfl, by decide⟩
    · cases h; exact ⟨_, _, Go.Proofs.Try.t77.desc, Go.Proofs.Try.t77, (by kernel_rfl : Try.prog.underlying 103 = some (.struct (fieldsOf Go.Proofs.Try.t102.desc))), rfl, rfl, by kernel_rfl, rfl, by kernel_rfl, rfl, by decide⟩
    · cases h; exact ⟨_, _, Go.Proofs.Try.t3.desc, Go.Proofs.Try.t3, (by kernel_rfl : Try.prog.underlying 114 = some (.struct (fieldsOf Go.Proofs.Try.t114.desc))), rfl, rfl, by kernel_rfl, rfl, by kernel_rfl, rfl, by decide⟩
    · cases h; exact ⟨_, _, Go.Proofs.Try.t3.desc, Go.Proofs.Try.t3, (by kernel_rfl : Try.prog.underlying 114 = some (.struct (fieldsOf Go.Proofs.Try.t114.desc))), rfl, rfl, by kernel_rfl, rfl, by kernel_rfl, rfl, by decide⟩
    · cases h; exact ⟨_, _, Go.Proofs.Try.t3.desc, Go.Proofs.Try.t3, (by kernel_rfl : Try.prog.underlying 114 = some (.struct (fieldsOf Go.Proofs.Try.t114.desc))), rfl, rfl, by kernel_rfl, rfl, by kernel_rfl, rfl, by decide⟩
    · cases h; exact ⟨_, _, Go.Proofs.Try.t3.desc, Go.Proofs.Try.t3, (by kernel_rfl : Try.prog.underlying 114 = some (.struct (fieldsOf Go.Proofs.Try.t114.desc))), rfl, rfl, by kernel_rfl, rfl, by kernel_rfl, rfl, by decide⟩
    · cases h; exact ⟨_, _, Go.Proofs.Try.t3.desc, Go.Proofs.Try.t3, (by kernel_rfl : Try.prog.underlying 114 = some (.struct (fieldsOf Go.Proofs.Try.t114.desc))), rfl, rfl, by kernel_rfl, rfl, by kernel_rfl, rfl, by decide⟩
    · cases h; exact ⟨_, _, Go.Proofs.Try.t3.desc, Go.Proofs.Try.t3, (by kernel_rfl : Try.prog.underlying 114 = some (.struct (fieldsOf Go.Proofs.Try.t114.desc))), rfl, rfl, by kernel_rfl, rfl, by kernel_rfl, rfl, by decide⟩
    · cases h; exact ⟨_, _, Go.Proofs.Try.t3.desc, Go.Proofs.Try.t3, (by kernel_rfl : Try.prog.underlying 115 = some (.struct (fieldsOf Go.Proofs.Try.t114.desc))), rfl, rfl, by kernel_rfl, rfl, by kernel_rfl, rfl, by decide⟩
    · cases h; exact ⟨_, _, Go.Proofs.Try.t3.desc, Go.Proofs.Try.t3, (by kernel_rfl : Try.prog.underlying 115 = some (.struct (fieldsOf Go.Proofs.Try.t114.desc))), rfl, rfl, by kernel_rfl, rfl, by kernel_rfl, rfl, by decide⟩
    · cases h; exact ⟨_, _, Go.Proofs.Try.t3.desc, Go.Proofs.Try.t3, (by kernel_rfl : Try.prog.underlying 115 = some (.struct (fieldsOf Go.Proofs.Try.t114.desc))), rfl, rfl, by kernel_rfl, rfl, by kernel_rfl, rfl, by decide⟩
    · cases h; exact ⟨_, _, Go.Proofs.Try.t3.desc, Go.Proofs.Try.t3, (by kernel_rfl : Try.prog.underlying 115 = some (.struct (fieldsOf Go.Proofs.Try.t114.desc))), rfl, rfl, by kernel_rfl, rfl, by kernel_rfl, rfl, by decide⟩
    · cases h; exact ⟨_, _, Go.Proofs.Try.t3.desc, Go.Proofs.Try.t3, (by kernel_rfl : Try.prog.underlying 115 = some (.struct (fieldsOf Go.Proofs.Try.t114.desc))), rfl, rfl, by kernel_rfl, rfl, by kernel_rfl, rfl, by decide⟩
    · cases h; exact ⟨_, _, Go.Proofs.Try.t3.desc, Go.Proofs.Try.t3, (by kernel_rfl : Try.prog.underlying 115 = some (.struct (fieldsOf Go.Proofs.Try.t114.desc))), rfl, rfl, by kernel_rfl, rfl, by kernel_rfl, rfl, by decide⟩
    · cases h
  zero := by
    intro t z h
    unfold EV at h
    dsimp only at h
    split at h
    · cases h; exact ⟨Go.Proofs.Try.t2, _, by kernel_rfl, rfl, rfl, rfl⟩
    · cases h; exact ⟨Go.Proofs.Try.t3, _, by kernel_rfl, rfl, rfl, rfl⟩
    · cases h; exact ⟨Go.Proofs.Try.t4, _, by kernel_rfl, rfl, rfl, rfl⟩
    · cases h; exact ⟨Go.Proofs.Try.t5, _, by kernel_rfl, rfl, rfl, rfl⟩
    · cases h; exact ⟨Go.Proofs.Try.t9, _, by kernel_rfl, rfl, rfl, rfl⟩
    · cases h; exact ⟨Go.Proofs.Try.t22, _, by kernel_rfl, rfl, rfl, rfl⟩
    · cases h; exact ⟨Go.Proofs.Try.t26, _, by kernel_rfl, rfl, rfl, rfl⟩
    · cases h; exact ⟨Go.Proofs.Try.t27, _, by kernel_rfl, rfl, rfl, rfl⟩
    · cases h; exact ⟨Go.Proofs.Try.t31, _, by kernel_rfl, rfl, rfl, rfl⟩
    · cases h; exact ⟨Go.Proofs.Try.t32, _, by kernel_rfl, rfl, rfl, rfl⟩
    · cases h; exact ⟨Go.Proofs.Try.t36, _, by kernel_rfl, rfl, rfl, rfl⟩
    · cases h; exact ⟨Go.Proofs.Try.t39, _, by kernel_rfl, rfl, rfl, rfl⟩
    · cases h; exact ⟨Go.Proofs.Try.t40, _, by kernel_rfl, rfl, rfl, rfl⟩
    · cases h; exact ⟨Go.Proofs.Try.t42, _, by kernel_rfl, rfl, rfl, rfl⟩
    · cases h; exact ⟨Go.Proofs.Try.t44, _, by kernel_rfl, rfl, rfl, rfl⟩
    · cases h; exact ⟨Go.Proofs.Try.t45, _, by kernel_rfl, rfl, rfl, rfl⟩
    · cases h; exact ⟨Go.Proofs.Try.t54, _, by kernel_rfl, rfl, rfl, rfl⟩
    · cases h; exact ⟨Go.Proofs.Try.t58, _, by kernel_rfl, rfl, rfl, rfl⟩
    · cases h; exact ⟨Go.Proofs.Try.t65, _, by kernel_rfl, rfl, rfl, rfl⟩
    · cases h; exact ⟨Go.Proofs.Try.t66, _, by kernel_rfl, rfl, rfl, rfl⟩
    · cases h; exact ⟨Go.Proofs.Try.t67, _, by kernel_rfl, rfl, rfl, rfl⟩
    · cases h; exact ⟨Go.Proofs.Try.t68, _, by kernel_rfl, rfl, rfl, rfl⟩
    · cases h; exact ⟨Go.Proofs.Try.t77, _, by kernel_rfl, rfl, rfl, rfl⟩
    · cases h; exact ⟨Go.Proofs.Try.t78, _, by kernel_rfl, rfl, rfl, rfl⟩
    · cases h; exact ⟨Go.Proofs.Try.t87, _, by kernel_rfl, rfl, rfl, rfl⟩
    · cases h; exact ⟨Go.Proofs.Try.t88, _, by kernel_rfl, rfl, rfl, rfl⟩
    · cases h; exact ⟨Go.Proofs.Try.t89, _, by kernel_rfl, rfl, rfl, rfl⟩
    · cases h; exact ⟨Go.Proofs.Try.t93, _, by kernel_rfl, rfl, rfl, rfl⟩
    · cases h; exact ⟨Go.Proofs.Try.t94, _, by kernel_rfl, rfl, rfl, rfl⟩
    · cases h; exact ⟨Go.Proofs.Try.t95, _, by kernel_rfl, rfl, rfl, rfl⟩
    · cases h; exact ⟨Go.Proofs.Try.t96, _, by kernel_rfl, rfl, rfl, rfl⟩
    · cases h; exact ⟨Go.Proofs.Try.t97, _, by kernel_rfl, rfl, rfl, rfl⟩
    · cases h; exact ⟨Go.Proofs.Try.t98, _, by kernel_rfl, rfl, rfl, rfl⟩
    · cases h; exact ⟨Go.Proofs.Try.t100, _, by kernel_rfl, rfl, rfl, rfl⟩
    · cases h; exact ⟨Go.Proofs.Try.t101, _, by kernel_rfl, rfl, rfl, rfl⟩
    · cases h; exact ⟨Go.Proofs.Try.t102, _, by kernel_rfl, rfl, rfl, rfl⟩
    · cases h; exact ⟨Go.Proofs.Try.t103, _, by kernel_rfl, rfl, rfl, rfl⟩
    · cases h; exact ⟨Go.Proofs.Try.t111, _, by kernel_rfl, rfl, rfl, rfl⟩
    · cases h; exact ⟨Go.Proofs.Try.t114, _, by kernel_rfl, rfl, rfl, rfl⟩
    · cases h; exact ⟨Go.Proofs.Try.t115, _, by kernel_rfl, rfl, rfl, rfl⟩
    · cases h; exact ⟨Go.Proofs.Try.t124, _, by kernel_rfl, rfl, rfl, rfl⟩
    · cases h; exact ⟨Go.Proofs.Try.t141, _, by kernel_rfl, rfl, rfl, rfl⟩
    · cases h; exact ⟨Go.Proofs.Try.t142, _, by kernel_rfl, rfl, rfl, rfl⟩
    · cases h; exact ⟨Go.Proofs.Try.t150, _, by kernel_rfl, rfl, rfl, rfl⟩
    · cases h; exact ⟨Go.Proofs.Try.t176, _, by kernel_rfl, rfl, rfl, rfl⟩
    · cases h
  strct := by
    intro t pl h
    unfold EV at h
    dsimp only at h
    split at h
    · cases h; exact ⟨_, (by kernel_rfl : Try.prog.underlying 44 = some (.struct (fieldsOf Go.Proofs.Try.t44.desc))), by kernel_rfl⟩
    · cases h; exact ⟨_, (by kernel_rfl : Try.prog.underlying 45 = some (.struct (fieldsOf Go.Proofs.Try.t44.desc))), by kernel_rfl⟩
    · cases h; exact ⟨_, (by kernel_rfl : Try.prog.underlying 67 = some (.struct (fieldsOf Go.Proofs.Try.t67.desc))), by kernel_rfl⟩
    · cases h; exact ⟨_, (by kernel_rfl : Try.prog.underlying 68 = some (.struct (fieldsOf Go.Proofs.Try.t67.desc))), by kernel_rfl⟩
    · cases h; exact ⟨_, (by kernel_rfl : Try.prog.underlying 87 = some (.struct (fieldsOf Go.Proofs.Try.t87.desc))), by kernel_rfl⟩
    · cases h; exact ⟨_, (by kernel_rfl : Try.prog.underlying 88 = some (.struct (fieldsOf Go.Proofs.Try.t87.desc))), by kernel_rfl⟩
    · cases h; exact ⟨_, (by kernel_rfl : Try.prog.underlying 95 = some (.struct (fieldsOf Go.Proofs.Try.t95.desc))), by kernel_rfl⟩
    · cases h; exact ⟨_, (by kernel_rfl : Try.prog.underlying 96 = some (.struct (fieldsOf Go.Proofs.Try.t95.desc))), by kernel_rfl⟩
    · cases h; exact ⟨_, (by kernel_rfl : Try.prog.underlying 97 = some (.struct (fieldsOf Go.Proofs.Try.t97.desc))), by kernel_rfl⟩
    · cases h; exact ⟨_, (by kernel_rfl : Try.prog.underlying 98 = some (.struct (fieldsOf Go.Proofs.Try.t97.desc))), by kernel_rfl⟩
    · cases h; exact ⟨_, (by kernel_rfl : Try.prog.underlying 100 = some (.struct (fieldsOf Go.Proofs.Try.t100.desc))), by kernel_rfl⟩
    · cases h; exact ⟨_, (by kernel_rfl : Try.prog.underlying 101 = some (.struct (fieldsOf Go.Proofs.Try.t100.desc))), by kernel_rfl⟩
    · cases h; exact ⟨_, (by kernel_rfl : Try.prog.underlying 102 = some (.struct (fieldsOf Go.Proofs.Try.t102.desc))), by kernel_rfl⟩
    · cases h; exact ⟨_, (by kernel_rfl : Try.prog.underlying 103 = some (.struct (fieldsOf Go.Proofs.Try.t102.desc))), by kernel_rfl⟩
    · cases h; exact ⟨_, (by kernel_rfl : Try.prog.underlying 114 = some (.struct (fieldsOf Go.Proofs.Try.t114.desc))), by kernel_rfl⟩
    · cases h; exact ⟨_, (by kernel_rfl : Try.prog.underlying 115 = some (.struct (fieldsOf Go.Proofs.Try.t114.desc))), by kernel_rfl⟩
    · cases h
  conv := by
    intro s d
    unfold EV
    dsimp only
    split
    · rename_i k hk; split at hk <;> cases hk
      · exact ⟨⟨_, (by kernel_rfl : Try.prog.underlying 2 = some (Go.Proofs.Try.t2.desc))⟩, by kernel_rfl⟩
      · exact ⟨⟨_, (by kernel_rfl : Try.prog.underlying 3 = some (Go.Proofs.Try.t3.desc))⟩, by kernel_rfl⟩
      · exact ⟨⟨_, (by kernel_rfl : Try.prog.underlying 3 = some (Go.Proofs.Try.t3.desc))⟩, by kernel_rfl⟩
      · exact ⟨⟨_, (by kernel_rfl : Try.prog.underlying 3 = some (Go.Proofs.Try.t3.desc))⟩, by kernel_rfl⟩
      · exact ⟨⟨_, (by kernel_rfl : Try.prog.underlying 5 = some (Go.Proofs.Try.t5.desc))⟩, by kernel_rfl⟩
      · exact ⟨⟨_, (by kernel_rfl : Try.prog.underlying 5 = some (Go.Proofs.Try.t5.desc))⟩, by kernel_rfl⟩
      · exact ⟨⟨_, (by kernel_rfl : Try.prog.underlying 5 = some (Go.Proofs.Try.t5.desc))⟩, by kernel_rfl⟩
      · exact ⟨⟨_, (by kernel_rfl : Try.prog.underlying 5 = some (Go.Proofs.Try.t5.desc))⟩, by kernel_rfl⟩
      · exact ⟨⟨_, (by kernel_rfl : Try.prog.underlying 5 = some (Go.Proofs.Try.t5.desc))⟩, by kernel_rfl⟩
      · exact ⟨⟨_, (by kernel_rfl : Try.prog.underlying 93 = some (Go.Proofs.Try.t93.desc))⟩, by kernel_rfl⟩
      · exact ⟨⟨_, (by kernel_rfl : Try.prog.underlying 111 = some (Go.Proofs.Try.t111.desc))⟩, by kernel_rfl⟩
      · exact ⟨⟨_, (by kernel_rfl : Try.prog.underlying 111 = some (Go.Proofs.Try.t111.desc))⟩, by kernel_rfl⟩
      · exact ⟨⟨_, (by kernel_rfl : Try.prog.underlying 111 = some (Go.Proofs.Try.t111.desc))⟩, by kernel_rfl⟩
      · exact ⟨⟨_, (by kernel_rfl : Try.prog.underlying 124 = some (Go.Proofs.Try.t124.desc))⟩, by kernel_rfl⟩
      · exact ⟨⟨_, (by kernel_rfl : Try.prog.underlying 142 = some (Go.Proofs.Try.t142.desc))⟩, by kernel_rfl⟩
    · rename_i hk; split at hk <;> cases hk
      · exact ⟨5, by kernel_rfl, by kernel_rfl, by kernel_rfl⟩
    · rename_i hk; split at hk <;> cases hk
      · exact ⟨rfl, 5, by kernel_rfl, by kernel_rfl⟩
    · rename_i hk; split at hk <;> cases hk
    · trivial
  conc := by
    intro t h
    unfold EV at h
    dsimp only at h
    split at h
    · cases h; exact (by kernel_rfl)
    · cases h
  str := by
    intro t h
    unfold EV at h
    dsimp only at h
    split at h
    · cases h; exact (by kernel_rfl)
    · cases h
  mixed := by kernel_rfl
  bool := by
    intro t h
    unfold EV at h
    dsimp only at h
    split at h
    · cases h; exact (by kernel_rfl)
    · cases h
  ifc := by
    intro t h
    unfold EV at h
    dsimp only at h
    split at h
    · cases h; exact ⟨methodsOf Go.Proofs.Try.t31.desc, by kernel_rfl⟩
    · cases h; exact ⟨methodsOf Go.Proofs.Try.t31.desc, by kernel_rfl⟩
    · cases h
  nest := by
    intro t pk eb r h
    unfold EV at h
    dsimp only at h
    split at h
    · cases h; exact ⟨101, by kernel_rfl, Go.Proofs.Try.t101, _, by kernel_rfl, rfl, rfl, rfl⟩
    · cases h
  err := by
    intro t h
    unfold EV at h
    dsimp only at h
    split at h
    · cases h; exact ⟨by kernel_rfl, Go.Proofs.Try.t36, by kernel_rfl, rfl⟩
    · cases h
  err1 := by
    intro t t' h h'
    unfold EV at h h'
    dsimp only at h h'
    split at h
    · split at h'
      · rfl
      · cases h'
    · cases h
  ptr := by
    intro t h
    unfold EV at h
    dsimp only at h
    split at h
    · exact ⟨_, (by kernel_rfl : Try.prog.underlying 40 = some Go.Proofs.Try.t40.desc)⟩
    · exact ⟨_, (by kernel_rfl : Try.prog.underlying 42 = some Go.Proofs.Try.t42.desc)⟩
    · exact ⟨_, (by kernel_rfl : Try.prog.underlying 54 = some Go.Proofs.Try.t54.desc)⟩
    · cases h
/-- The same, where slices of slices have rows of their own. -/
def EVN : Env := { EV with nest := fun
    | 94 => some (some .u8, 5, .one (.int .u8))
    | 58 => some (none, 5, .one (.int .u8))
    | _ => none }
theorem EVN_ok : EnvOk Try.prog EVN where
  slice := EV_ok.slice
  var := EV_ok.var
  fld := EV_ok.fld
  zero := EV_ok.zero
  strct := EV_ok.strct
  conv := EV_ok.conv
  conc := EV_ok.conc
  str := EV_ok.str
  mixed := EV_ok.mixed
  bool := EV_ok.bool
  ifc := EV_ok.ifc
  err := EV_ok.err
  err1 := EV_ok.err1
  ptr := EV_ok.ptr
  nest := by
    intro t pk eb r h
    unfold EVN at h
    dsimp only at h
    split at h
    · cases h; exact ⟨101, by kernel_rfl, Go.Proofs.Try.t101, _, by kernel_rfl, rfl, rfl, rfl⟩
    · cases h; exact ⟨22, by kernel_rfl, Go.Proofs.Try.t22, _, by kernel_rfl, rfl, rfl, rfl⟩
    · cases h
end Go.AX
