/- The tables of this claim: types, functions, loops; no condition. -/
import Derived.Test.YthjkpphjlmmkdaaProg
import Derived.Test.YthjkpphjlmmkdaaVaiEnv
import Derived.KernelRfl
namespace Go.Proofs.Ythjkpphjlmmkdaa.Vai
open Go
set_option maxRecDepth 100000
def tTl : List (Nat × TI) := [
  (2, ⟨[.int .i64], 8, false, []⟩),
  (3, ⟨[.int .i64], 8, false, []⟩),
  (4, ⟨[.bool], 1, false, []⟩),
  (5, ⟨[.int .u8], 1, false, []⟩),
  (6, ⟨[.int .u8], 1, false, []⟩),
  (7, ⟨[.int .i64, .int .i64, .bool, .int .u8], 24, true, [(0, 2), (1, 3), (2, 4), (3, 6)]⟩),
  (8, ⟨[.int .i64, .int .i64, .bool, .int .u8], 24, true, [(0, 2), (1, 3), (2, 4), (3, 6)]⟩),
  (9, ⟨[.str], 16, false, []⟩),
  (10, ⟨[.str], 16, false, []⟩),
  (11, ⟨[.str], 16, false, []⟩),
  (12, ⟨[.int .u64], 8, false, []⟩),
  (13, ⟨[.str, .int .u64], 24, true, [(0, 9), (1, 12)]⟩),
  (14, ⟨[.str, .int .u64], 24, true, [(0, 9), (1, 12)]⟩),
  (21, ⟨[.int .i32], 4, false, []⟩),
  (24, ⟨[.int .i64, .int .i64, .int .i64], 24, true, [(0, 3), (1, 3), (2, 3)]⟩),
  (25, ⟨[.int .i64, .int .i64, .int .i64], 24, true, [(0, 3), (1, 3), (2, 3)]⟩),
  (27, ⟨[.int .i64, .int .i64, .int .i64], 24, true, [(0, 3), (1, 3), (2, 3)]⟩),
  (30, ⟨[.sl 25], 24, false, []⟩),
  (32, ⟨[.sl 3], 24, false, []⟩),
  (34, ⟨[.sl 27], 24, false, []⟩),
  (46, ⟨[.sl 30], 24, false, []⟩),
  (47, ⟨[.sl 30, .sl 30, .sl 30, .int .i64], 80, true, [(0, 46), (1, 46), (2, 46), (3, 3)]⟩),
  (48, ⟨[.sl 30, .sl 30, .sl 30, .int .i64], 80, true, [(0, 46), (1, 46), (2, 46), (3, 3)]⟩),
  (51, ⟨[.sl 34], 24, false, []⟩),
  (52, ⟨[.sl 34, .sl 34, .sl 34, .int .i64], 80, true, [(0, 51), (1, 51), (2, 51), (3, 3)]⟩),
  (53, ⟨[.sl 34, .sl 34, .sl 34, .int .i64], 80, true, [(0, 51), (1, 51), (2, 51), (3, 3)]⟩),
  (58, ⟨[.sl 9], 24, false, []⟩),
  (63, ⟨[.sl 5], 24, false, []⟩),
  (101, ⟨[.int .u64], 8, false, []⟩),
  (106, ⟨[.sl 5, .int .i64, .int .i64], 40, true, [(0, 63), (1, 3), (2, 3)]⟩),
  (107, ⟨[.sl 5, .int .i64, .int .i64], 40, true, [(0, 63), (1, 3), (2, 3)]⟩),
  (119, ⟨[.int .u32], 4, false, []⟩),
  (120, ⟨[.int .u8], 1, false, []⟩),
  (121, ⟨[.int .u8], 1, false, []⟩),
  (124, ⟨[.int .i32], 4, false, []⟩),
  (125, ⟨[.int .i32], 4, false, []⟩)]
noncomputable def tFl : List (Nat × Func) := [(62, Try.f62), (63, Try.f63), (17, Try.f17), (18, Try.f18), (64, Try.f64), (65, Try.f65), (19, Try.f19), (4, Try.f4)]
def tKl : List (Nat × Nat × List Nat) := []
noncomputable def tE : Env := ⟨lookN tTl, lookN tFl, fun _ => .plain, fun _ => none, keepOf tKl, fun _ => false⟩
theorem tAllF : AllF Try.prog tFl := ⟨Try.func62, Try.func63, Try.func17, Try.func18, Try.func64, Try.func65, Try.func19, Try.func4, True.intro⟩
theorem tEok : EnvOk Try.prog tE ∧ ∀ t ti, tE.T t = some ti → ti.agg = true → flatOk tE ti.ls 0 ti.fs = true :=
  envOk rfl rfl (by kernel_rfl) tAllF (by kernel_rfl) (by kernel_rfl) (fun _ _ h => by cases h)
theorem tAt (f : FuncId) : PlainAt Try.prog tE f (callI tE f) := fun fn ps rs ds out h1 h2 h3 h4 h5 => by
  obtain ⟨k, hk⟩ := callI_iff.mp h5
  exact icall_ok tEok.1 (fun _ => rfl) (fun _ _ h => by cases h) k f fn ps rs ds out h1 h2 h3 h4 hk
end Go.Proofs.Ythjkpphjlmmkdaa.Vai
