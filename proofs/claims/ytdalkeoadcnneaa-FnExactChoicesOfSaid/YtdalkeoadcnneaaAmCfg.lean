/-
  What the machine is told of this seat's translation, by program (cfg.py). Not trusted: the types are checked against the program here by one reckoning.
-/
import Derived.Test.YtdalkeoadcnneaaAmDraw
import Derived.Test.YtdalkeoadcnneaaAmAgree
import Derived.Test.YtdalkeoadcnneaaAmExt2
import Derived.Test.YtdalkeoadcnneaaAmExt4
import Derived.Test.YtdalkeoadcnneaaProg
set_option linter.unusedVariables false
namespace Go.Am
open Go
/-- A row by its number. -/
def lookN {α : Type} (k : Nat) (d : α) : List (Nat × α) → α
  | [] => d
  | (i, a) :: r => if i = k then a else lookN k d r
def tys : List (Option TyInfo) := [
  none,
  none,
  some ⟨.int .i64, 1, 8, .int .i64 0, false, [], .flat⟩,
  some ⟨.int .i64, 1, 8, .int .i64 0, false, [], .flat⟩,
  some ⟨.bool, 1, 1, .bool false, false, [], .flat⟩,
  some ⟨.int .u8, 1, 1, .int .u8 0, false, [], .flat⟩,
  some ⟨.int .u8, 1, 1, .int .u8 0, false, [], .flat⟩,
  some ⟨.struct [(0, 2), (1, 3), (2, 4), (3, 6)], 4, 24, .agg [.int .i64 0, .int .i64 0, .bool false, .int .u8 0], false, [], .flat⟩,
  some ⟨.struct [(0, 2), (1, 3), (2, 4), (3, 6)], 4, 24, .agg [.int .i64 0, .int .i64 0, .bool false, .int .u8 0], false, [], .flat⟩,
  some ⟨.str, 1, 16, .str [], false, [], .flat⟩,
  some ⟨.str, 1, 16, .str [], false, [], .flat⟩,
  some ⟨.str, 1, 16, .str [], false, [], .flat⟩,
  some ⟨.int .u64, 1, 8, .int .u64 0, false, [], .flat⟩,
  some ⟨.struct [(0, 9), (1, 12)], 2, 24, .agg [.str [], .int .u64 0], false, [], .flat⟩,
  some ⟨.struct [(0, 9), (1, 12)], 2, 24, .agg [.str [], .int .u64 0], false, [], .flat⟩,
  some ⟨.ptr 30, 1, 8, .undef, false, [], .flat⟩,
  some ⟨.ptr 33, 1, 8, .undef, false, [], .flat⟩,
  some ⟨.ptr 43, 1, 8, .undef, false, [], .flat⟩,
  some ⟨.struct [(0, 17)], 1, 8, .agg [.undef], false, [], .flat⟩,
  some ⟨.struct [(0, 17)], 1, 8, .agg [.undef], false, [], .flat⟩,
  none,
  some ⟨.int .i32, 1, 4, .int .i32 0, false, [], .flat⟩,
  some ⟨.slice 3, 1, 24, .nil, false, [.view 999 1 .flat []], .clean⟩,
  none,
  none,
  none,
  none,
  none,
  none,
  some ⟨.struct [(0, 17), (1, 17), (2, 17), (3, 9)], 4, 40, .agg [.undef, .undef, .undef, .str []], false, [], .flat⟩,
  some ⟨.struct [(0, 17), (1, 17), (2, 17), (3, 9)], 4, 40, .agg [.undef, .undef, .undef, .str []], false, [], .flat⟩,
  some ⟨.array 0 16, 0, 0, .agg [], false, [], .flat⟩,
  none,
  some ⟨.struct [(0, 31)], 0, 0, .agg [], false, [], .flat⟩,
  none,
  some ⟨.int .u32, 1, 4, .int .u32 0, false, [], .flat⟩,
  some ⟨.int .u8, 1, 1, .int .u8 0, false, [], .flat⟩,
  some ⟨.int .u8, 1, 1, .int .u8 0, false, [], .flat⟩,
  none,
  some ⟨.ptr 5, 1, 8, .undef, false, [], .flat⟩,
  some ⟨.int .i32, 1, 4, .int .i32 0, false, [], .flat⟩,
  some ⟨.int .i32, 1, 4, .int .i32 0, false, [], .flat⟩]
def pzL : List (Nat × List (List V)) := [(7, [[.view 999 1 .flat []], [.view 999 1 .flat []]]),
  (9, [[.view 999 1 .flat []], []])]
def rzL : List (Nat × List V) := [(5, [.own 0 1 .flat []]),
  (6, [.own 0 1 .flat []]),
  (10, [.own 0 1 .flat []]),
  (11, [.own 0 1 .flat []])]
def fgL : List (Nat × List (Nat × List Nat × List Nat × List Nat)) := [(7, [(4, [2, 3, 4, 6, 7, 8, 9, 10, 11, 12, 13, 14, 15, 16, 17, 18, 19, 20, 21, 22, 23, 24, 25], [], []), (1004, [0, 1, 2, 3, 5, 6, 7, 8, 9, 10, 11, 12, 13, 14, 15, 16, 17, 18, 19, 20, 21, 22, 23, 24, 25], [], [])]),
  (9, [(2, [2, 3, 4, 6, 7, 8, 9, 10, 11, 12, 13, 14, 15, 16, 17, 18, 19, 20], [], []), (1002, [0, 2, 3, 5, 6, 7, 8, 9, 10, 11, 12, 13, 14, 15, 16, 17, 18, 19, 20], [], [])]),
  (10, [(4, [0, 1, 2, 6, 7, 8, 9, 10, 11, 12, 13, 14, 15, 16, 17, 18, 19, 20, 21, 22, 23, 24, 25, 26], [], []), (1004, [0, 1, 2, 3, 5, 6, 7, 8, 9, 10, 11, 12, 13, 14, 15, 16, 17, 18, 19, 20, 21, 22, 23, 24, 25, 26], [], [])]),
  (11, [(4, [0, 1, 2, 6, 7, 8, 9, 10, 11, 12, 13, 14, 15, 16, 17, 18, 19, 20, 21, 22, 23, 24, 25, 26], [], []), (1004, [0, 1, 2, 3, 5, 6, 7, 8, 9, 10, 11, 12, 13, 14, 15, 16, 17, 18, 19, 20, 21, 22, 23, 24, 25, 26], [], [])])]
def cfg : Cfg := ⟨fun t => tys.getD t none, fun f i => lookN i ([], [], []) (lookN f [] fgL), fun f => lookN f [] pzL, fun f => lookN f [] rzL⟩
theorem agree : Agree Go.Proofs.Try.prog cfg := agree_of tys (fun _ => rfl) (by kernel_rfl)
def ext1 : Nat → List V → Option V := extL []
noncomputable def D1 : Nat → List V → Option V := den Go.Proofs.Try.prog cfg ext1
noncomputable def ext0 : Nat → List V → Option V := extL [(3, mark1V), (4, mark1V)]
noncomputable abbrev D : Nat → List V → Option V := den Go.Proofs.Try.prog cfg ext0
end Go.Am
