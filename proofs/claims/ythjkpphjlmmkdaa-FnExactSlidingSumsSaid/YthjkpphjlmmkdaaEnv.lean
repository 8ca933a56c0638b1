/- The tables of this claim: types, functions, loops; no condition. -/
import Derived.Test.YthjkpphjlmmkdaaProg
import Derived.Test.YthjkpphjlmmkdaaVaiD
import Derived.KernelRfl
namespace Go.Proofs.Ythjkpphjlmmkdaa.Vai
open Go
set_option maxRecDepth 100000
def tTl : List (Nat × TI) := [
  (2, ⟨[.int .i64], 8, false, []⟩),
  (3, ⟨[.int .i64], 8, false, []⟩),
  (4, ⟨[.bool], 1, false, []⟩),
  (5, ⟨[.int .u8], 1, false, []⟩),
  (6, ⟨[.int .u8], 1, false, []⟩),
  (7, ⟨[.int .i64, .int .i64, .bool, .int .u8], 24, true, [(0, 2), (1, 3), (2, 4), (3, 6)]⟩),
  (8, ⟨[.int .i64, .int .i64, .bool, .int .u8], 24, true, [(0, 2), (1, 3), (2, 4), (3, 6)]⟩),
  (9, ⟨[.str], 16, false, []⟩),
  (10, ⟨[.str], 16, false, []⟩),
  (11, ⟨[.str], 16, false, []⟩),
  (12, ⟨[.int .u64], 8, false, []⟩),
  (13, ⟨[.str, .int .u64], 24, true, [(0, 9), (1, 12)]⟩),
  (14, ⟨[.str, .int .u64], 24, true, [(0, 9), (1, 12)]⟩),
  (21, ⟨[.int .i32], 4, false, []⟩),
  (24, ⟨[.int .i64, .int .i64, .int .i64], 24, true, [(0, 3), (1, 3), (2, 3)]⟩),
  (25, ⟨[.int .i64, .int .i64, .int .i64], 24, true, [(0, 3), (1, 3), (2, 3)]⟩),
  (27, ⟨[.int .i64, .int .i64, .int .i64], 24, true, [(0, 3), (1, 3), (2, 3)]⟩),
  (30, ⟨[.sl 25], 24, false, []⟩),
  (32, ⟨[.sl 3], 24, false, []⟩),
  (34, ⟨[.sl 27], 24, false, []⟩),
  (46, ⟨[.sl 30], 24, false, []⟩),
  (47, ⟨[.sl 30, .sl 30, .sl 30, .int .i64], 80, true, [(0, 46), (1, 46), (2, 46), (3, 3)]⟩),
  (48, ⟨[.sl 30, .sl 30, .sl 30, .int .i64], 80, true, [(0, 46), (1, 46), (2, 46), (3, 3)]⟩),
  (51, ⟨[.sl 34], 24, false, []⟩),
  (52, ⟨[.sl 34, .sl 34, .sl 34, .int .i64], 80, true, [(0, 51), (1, 51), (2, 51), (3, 3)]⟩),
  (53, ⟨[.sl 34, .sl 34, .sl 34, .int .i64], 80, true, [(0, 51), (1, 51), (2, 51), (3, 3)]⟩),
  (58, ⟨[.sl 9], 24, false, []⟩),
  (63, ⟨[.sl 5], 24, false, []⟩),
  (101, ⟨[.int .u64], 8, false, []⟩),
  (106, ⟨[.sl 5, .int .i64, .int .i64], 40, true, [(0, 63), (1, 3), (2, 3)]⟩),
  (107, ⟨[.sl 5, .int .i64, .int .i64], 40, true, [(0, 63), (1, 3), (2, 3)]⟩),
  (119, ⟨[.int .u32], 4, false, []⟩),
  (120, ⟨[.int .u8], 1, false, []⟩),
  (121, ⟨[.int .u8], 1, false, []⟩),
  (124, ⟨[.int .i32], 4, false, []⟩),
  (125, ⟨[.int .i32], 4, false, []⟩)]
noncomputable def tFl : List (Nat × Func) := [(15, Try.f15), (16, Try.f16), (3, Try.f3), (62, Try.f62), (63, Try.f63), (17, Try.f17), (18, Try.f18), (64, Try.f64), (65, Try.f65), (19, Try.f19), (4, Try.f4), (20, Try.f20), (21, Try.f21), (22, Try.f22), (23, Try.f23), (24, Try.f24), (66, Try.f66), (25, Try.f25), (26, Try.f26), (27, Try.f27), (28, Try.f28), (5, Try.f5), (67, Try.f67), (29, Try.f29), (87, Try.f87), (68, Try.f68), (30, Try.f30), (6, Try.f6), (90, Try.f90), (91, Try.f91), (71, Try.f71), (93, Try.f93), (74, Try.f74), (40, Try.f40), (31, Try.f31), (73, Try.f73), (92, Try.f92), (72, Try.f72), (101, Try.f101), (94, Try.f94), (75, Try.f75), (41, Try.f41), (32, Try.f32), (7, Try.f7), (54, Try.f54), (33, Try.f33), (88, Try.f88), (69, Try.f69), (34, Try.f34), (56, Try.f56), (35, Try.f35), (89, Try.f89), (70, Try.f70), (36, Try.f36), (58, Try.f58), (37, Try.f37), (8, Try.f8), (38, Try.f38), (39, Try.f39), (9, Try.f9), (42, Try.f42), (76, Try.f76), (43, Try.f43), (44, Try.f44), (10, Try.f10), (45, Try.f45), (46, Try.f46), (47, Try.f47), (48, Try.f48), (49, Try.f49), (11, Try.f11), (81, Try.f81), (50, Try.f50), (104, Try.f104), (98, Try.f98), (82, Try.f82), (83, Try.f83), (51, Try.f51), (12, Try.f12), (52, Try.f52), (53, Try.f53), (13, Try.f13), (84, Try.f84), (55, Try.f55), (99, Try.f99), (85, Try.f85), (57, Try.f57), (59, Try.f59), (60, Try.f60), (100, Try.f100), (86, Try.f86), (61, Try.f61), (14, Try.f14)]
def tKl : List (Nat × Nat × List Nat) := [(21, 7, [0, 1, 5, 6, 7, 8]), (21, 3, [0, 1, 5, 6]), (22, 3, [0, 3, 4]), (23, 5, [0, 1, 5, 6, 12, 13, 14]), (24, 4, [0, 1, 5]), (25, 4, [0, 1, 5]), (26, 2, [0, 1, 5]), (27, 2, [0, 1, 5]), (28, 2, [0, 1, 5]), (67, 4, [5, 6, 7]), (29, 7, [0, 3, 4, 5, 6]), (29, 3, [0, 3, 4]), (30, 7, [0, 3, 5, 6, 10, 11, 12, 16, 17, 18]), (30, 3, [0, 3, 10, 11, 12]), (90, 5, [0, 3, 4]), (91, 3, [0, 3, 4]), (93, 4, [0, 4, 5, 6]), (74, 2, [0, 1, 6]), (40, 3, [0, 4, 5]), (73, 3, [0, 3, 6, 7]), (101, 8, [0, 4, 5, 27, 28]), (94, 2, [0, 1, 2, 9]), (41, 2, [0, 4, 5]), (54, 5, [0, 1, 5]), (88, 4, [0, 1, 5]), (69, 4, [0, 1, 5]), (56, 3, [0, 3, 4]), (89, 4, [0, 1, 12, 13]), (70, 4, [0, 1, 12, 13]), (58, 4, [0, 1, 5]), (42, 4, [0, 1, 5]), (76, 4, [0, 3]), (43, 2, [0, 1, 5]), (44, 2, [0, 1, 5]), (48, 4, [0, 1, 5]), (49, 6, [0, 3, 4, 5]), (49, 3, [0, 3, 4]), (11, 16, [3, 4, 5, 6, 7, 9, 10]), (11, 10, [3, 4, 5, 6, 7, 8]), (81, 2, [0, 3]), (50, 15, [1, 4, 5, 6]), (50, 9, [1, 4]), (50, 4, [1, 3]), (104, 2, [5, 6, 7]), (82, 2, [0, 5, 6, 7]), (83, 3, [3, 7, 8, 9]), (51, 10, [1, 3, 4, 32, 33, 56, 57, 58]), (51, 5, [1, 3, 32, 33]), (52, 7, [1, 4]), (52, 2, [1, 3]), (84, 3, [0, 3, 4]), (55, 9, [1, 6, 9]), (55, 2, [0, 1, 2, 6, 8]), (85, 3, [3, 6, 7, 8]), (59, 2, [0, 1, 5]), (100, 2, [0, 1, 5]), (86, 2, [0, 1, 5])]
noncomputable def tE : Env := ⟨lookN tTl, lookN tFl, modeOf [26, 27, 43, 59, 60], fun _ => none, keepOf tKl, fun t => memN t [27]⟩
theorem tAllF : AllF Try.prog tFl := ⟨Try.func15, Try.func16, Try.func3, Try.func62, Try.func63, Try.func17, Try.func18, Try.func64, Try.func65, Try.func19, Try.func4, Try.func20, Try.func21, Try.func22, Try.func23, Try.func24, Try.func66, Try.func25, Try.func26, Try.func27, Try.func28, Try.func5, Try.func67, Try.func29, Try.func87, Try.func68, Try.func30, Try.func6, Try.func90, Try.func91, Try.func71, Try.func93, Try.func74, Try.func40, Try.func31, Try.func73, Try.func92, Try.func72, Try.func101, Try.func94, Try.func75, Try.func41, Try.func32, Try.func7, Try.func54, Try.func33, Try.func88, Try.func69, Try.func34, Try.func56, Try.func35, Try.func89, Try.func70, Try.func36, Try.func58, Try.func37, Try.func8, Try.func38, Try.func39, Try.func9, Try.func42, Try.func76, Try.func43, Try.func44, Try.func10, Try.func45, Try.func46, Try.func47, Try.func48, Try.func49, Try.func11, Try.func81, Try.func50, Try.func104, Try.func98, Try.func82, Try.func83, Try.func51, Try.func12, Try.func52, Try.func53, Try.func13, Try.func84, Try.func55, Try.func99, Try.func85, Try.func57, Try.func59, Try.func60, Try.func100, Try.func86, Try.func61, Try.func14, True.intro⟩
theorem tEok : EnvOk Try.prog tE ∧ ∀ t ti, tE.T t = some ti → ti.agg = true → flatOk tE ti.ls 0 ti.fs = true :=
  envOk rfl rfl (by kernel_rfl) tAllF (by kernel_rfl) (by kernel_rfl) (eqs_ok rfl rfl (by kernel_rfl))
theorem tAt (f : FuncId) : PlainAt Try.prog tE f (callI tE f) := fun fn ps rs ds out h1 h2 h3 h4 h5 => by
  obtain ⟨k, hk⟩ := callI_iff.mp h5
  exact (icall_ok tEok.1 (modeOk_of rfl) (fun _ _ h => by cases h) k f).1 fn ps rs ds out h1 h2 h3 h4 hk
end Go.Proofs.Ythjkpphjlmmkdaa.Vai
