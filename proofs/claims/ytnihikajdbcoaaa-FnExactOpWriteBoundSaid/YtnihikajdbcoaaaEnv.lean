/- The tables of this claim: types, functions, loops; no condition. -/
import Derived.Test.YtnihikajdbcoaaaProg
import Derived.Test.YtnihikajdbcoaaaVaiD
import Derived.KernelRfl
namespace Go.Proofs.Ytnihikajdbcoaaa.Vai
open Go
set_option linter.unusedSimpArgs false
set_option linter.unusedVariables false
set_option linter.unnecessarySimpa false
set_option maxRecDepth 100000
def tTl : List (Nat × TI) := [
  (2, ⟨[.int .i64], 8, false, []⟩),
  (3, ⟨[.int .i64], 8, false, []⟩),
  (4, ⟨[.bool], 1, false, []⟩),
  (5, ⟨[.int .u8], 1, false, []⟩),
  (6, ⟨[.int .u8], 1, false, []⟩),
  (7, ⟨[.int .i64, .int .i64, .bool, .int .u8], 24, true, [(0, 2), (1, 3), (2, 4), (3, 6)]⟩),
  (8, ⟨[.int .i64, .int .i64, .bool, .int .u8], 24, true, [(0, 2), (1, 3), (2, 4), (3, 6)]⟩),
  (9, ⟨[.str], 16, false, []⟩),
  (10, ⟨[.str], 16, false, []⟩),
  (11, ⟨[.str], 16, false, []⟩),
  (12, ⟨[.int .u64], 8, false, []⟩),
  (13, ⟨[.str, .int .u64], 24, true, [(0, 9), (1, 12)]⟩),
  (14, ⟨[.str, .int .u64], 24, true, [(0, 9), (1, 12)]⟩),
  (21, ⟨[.int .i32], 4, false, []⟩),
  (22, ⟨[.sl 95], 24, false, []⟩),
  (23, ⟨[.sl 84], 24, false, []⟩),
  (24, ⟨[.sl 95, .int .i64, .sl 95, .sl 95, .sl 95, .sl 84, .int .i64, .int .i64, .int .i64, .int .i64], 160, true, [(0, 22), (1, 3), (2, 22), (3, 22), (4, 22), (5, 23), (6, 3), (7, 3), (8, 3), (9, 3)]⟩),
  (25, ⟨[.sl 95, .int .i64, .sl 95, .sl 95, .sl 95, .sl 84, .int .i64, .int .i64, .int .i64, .int .i64], 160, true, [(0, 22), (1, 3), (2, 22), (3, 22), (4, 22), (5, 23), (6, 3), (7, 3), (8, 3), (9, 3)]⟩),
  (26, ⟨[.sl 87], 24, false, []⟩),
  (27, ⟨[.sl 87, .int .i64, .int .i64], 40, true, [(0, 26), (1, 3), (2, 3)]⟩),
  (28, ⟨[.sl 87, .int .i64, .int .i64], 40, true, [(0, 26), (1, 3), (2, 3)]⟩),
  (29, ⟨[.sl 90], 24, false, []⟩),
  (30, ⟨[.sl 90, .int .i64, .bool], 40, true, [(0, 29), (1, 3), (2, 4)]⟩),
  (31, ⟨[.sl 90, .int .i64, .bool], 40, true, [(0, 29), (1, 3), (2, 4)]⟩),
  (32, ⟨[.int .i64, .sl 95, .int .i64, .sl 95, .sl 95, .sl 95, .sl 84, .int .i64, .int .i64, .int .i64, .int .i64, .sl 87, .int .i64, .int .i64, .sl 90, .int .i64, .bool], 248, true, [(0, 3), (1, 25), (11, 28), (14, 31)]⟩),
  (33, ⟨[.int .i64, .sl 95, .int .i64, .sl 95, .sl 95, .sl 95, .sl 84, .int .i64, .int .i64, .int .i64, .int .i64, .sl 87, .int .i64, .int .i64, .sl 90, .int .i64, .bool], 248, true, [(0, 3), (1, 25), (11, 28), (14, 31)]⟩),
  (36, ⟨[.sl 93], 24, false, []⟩),
  (37, ⟨[.sl 97], 24, false, []⟩),
  (38, ⟨[.sl 93, .int .i64, .sl 93, .sl 93, .sl 93, .sl 97, .int .i64, .int .i64, .int .i64, .int .i64], 160, true, [(0, 36), (1, 3), (2, 36), (3, 36), (4, 36), (5, 37), (6, 3), (7, 3), (8, 3), (9, 3)]⟩),
  (39, ⟨[.sl 93, .int .i64, .sl 93, .sl 93, .sl 93, .sl 97, .int .i64, .int .i64, .int .i64, .int .i64], 160, true, [(0, 36), (1, 3), (2, 36), (3, 36), (4, 36), (5, 37), (6, 3), (7, 3), (8, 3), (9, 3)]⟩),
  (40, ⟨[.sl 58], 24, false, []⟩),
  (41, ⟨[.sl 58, .int .i64, .int .i64], 40, true, [(0, 40), (1, 3), (2, 3)]⟩),
  (42, ⟨[.sl 58, .int .i64, .int .i64], 40, true, [(0, 40), (1, 3), (2, 3)]⟩),
  (43, ⟨[.sl 60], 24, false, []⟩),
  (44, ⟨[.sl 60, .int .i64, .bool], 40, true, [(0, 43), (1, 3), (2, 4)]⟩),
  (45, ⟨[.sl 60, .int .i64, .bool], 40, true, [(0, 43), (1, 3), (2, 4)]⟩),
  (46, ⟨[.int .i64, .sl 93, .int .i64, .sl 93, .sl 93, .sl 93, .sl 97, .int .i64, .int .i64, .int .i64, .int .i64, .sl 58, .int .i64, .int .i64, .sl 60, .int .i64, .bool], 248, true, [(0, 3), (1, 39), (11, 42), (14, 45)]⟩),
  (47, ⟨[.int .i64, .sl 93, .int .i64, .sl 93, .sl 93, .sl 93, .sl 97, .int .i64, .int .i64, .int .i64, .int .i64, .sl 58, .int .i64, .int .i64, .sl 60, .int .i64, .bool], 248, true, [(0, 3), (1, 39), (11, 42), (14, 45)]⟩),
  (56, ⟨[.sl 4], 24, false, []⟩),
  (57, ⟨[.int .i64, .sl 93, .sl 93, .sl 4, .int .i64], 88, true, [(0, 3), (1, 36), (2, 36), (3, 56), (4, 3)]⟩),
  (58, ⟨[.int .i64, .sl 93, .sl 93, .sl 4, .int .i64], 88, true, [(0, 3), (1, 36), (2, 36), (3, 56), (4, 3)]⟩),
  (59, ⟨[.sl 93, .int .i64], 32, true, [(0, 36), (1, 3)]⟩),
  (60, ⟨[.sl 93, .int .i64], 32, true, [(0, 36), (1, 3)]⟩),
  (72, ⟨[.sl 3], 24, false, []⟩),
  (83, ⟨[.sl 95], 24, true, [(0, 22)]⟩),
  (84, ⟨[.sl 95], 24, true, [(0, 22)]⟩),
  (86, ⟨[.int .i64, .sl 95, .sl 95, .sl 4, .int .i64], 88, true, [(0, 3), (1, 22), (2, 22), (3, 56), (4, 3)]⟩),
  (87, ⟨[.int .i64, .sl 95, .sl 95, .sl 4, .int .i64], 88, true, [(0, 3), (1, 22), (2, 22), (3, 56), (4, 3)]⟩),
  (89, ⟨[.sl 95, .int .i64], 32, true, [(0, 22), (1, 3)]⟩),
  (90, ⟨[.sl 95, .int .i64], 32, true, [(0, 22), (1, 3)]⟩),
  (92, ⟨[.int .i64, .int .i64, .int .i64], 24, true, [(0, 3), (1, 3), (2, 3)]⟩),
  (93, ⟨[.int .i64, .int .i64, .int .i64], 24, true, [(0, 3), (1, 3), (2, 3)]⟩),
  (95, ⟨[.int .i64, .int .i64, .int .i64], 24, true, [(0, 3), (1, 3), (2, 3)]⟩),
  (96, ⟨[.sl 93], 24, true, [(0, 36)]⟩),
  (97, ⟨[.sl 93], 24, true, [(0, 36)]⟩),
  (118, ⟨[.int .u32], 4, false, []⟩),
  (119, ⟨[.int .u8], 1, false, []⟩),
  (120, ⟨[.int .u8], 1, false, []⟩),
  (123, ⟨[.int .i32], 4, false, []⟩),
  (124, ⟨[.int .i32], 4, false, []⟩)]
noncomputable def tFl : List (Nat × Func) := [(24, Try.f24), (42, Try.f42), (25, Try.f25), (9, Try.f9), (55, Try.f55), (43, Try.f43), (26, Try.f26), (10, Try.f10), (44, Try.f44), (27, Try.f27), (11, Try.f11), (4, Try.f4), (60, Try.f60), (56, Try.f56), (45, Try.f45), (28, Try.f28), (29, Try.f29), (12, Try.f12), (13, Try.f13), (30, Try.f30), (14, Try.f14), (5, Try.f5), (46, Try.f46), (31, Try.f31), (47, Try.f47), (32, Try.f32), (15, Try.f15), (57, Try.f57), (48, Try.f48), (33, Try.f33), (16, Try.f16), (49, Try.f49), (34, Try.f34), (17, Try.f17), (6, Try.f6), (61, Try.f61), (58, Try.f58), (50, Try.f50), (35, Try.f35), (36, Try.f36), (18, Try.f18), (19, Try.f19), (37, Try.f37), (20, Try.f20), (7, Try.f7), (51, Try.f51), (38, Try.f38), (52, Try.f52), (39, Try.f39), (21, Try.f21), (59, Try.f59), (53, Try.f53), (40, Try.f40), (22, Try.f22), (54, Try.f54), (41, Try.f41), (23, Try.f23), (8, Try.f8), (3, Try.f3)]
def tKl : List (Nat × Nat × List Nat) := [(25, 5, [0, 1, 5]), (26, 5, [0, 1, 5]), (27, 5, [0, 1, 5]), (28, 3, [0, 3, 4]), (29, 3, [0, 3, 4]), (30, 7, [0, 3, 4, 5, 6]), (30, 3, [0, 3, 4]), (5, 7, [1, 3, 4]), (5, 14, [1, 5, 6]), (31, 3, [0, 3, 4]), (32, 3, [0, 3, 4]), (57, 3, [0, 3, 4]), (33, 3, [0, 3, 4]), (34, 3, [0, 3, 4]), (35, 3, [3, 6, 7, 8]), (36, 3, [0, 3, 4]), (37, 3, [3, 4, 9, 10, 11]), (7, 7, [3, 20, 21, 22]), (7, 13, [3, 38, 39, 40]), (38, 4, [0, 1, 5]), (39, 4, [0, 1, 5]), (59, 4, [0, 1, 5]), (40, 4, [0, 1, 5]), (41, 4, [0, 1, 5])]
def tMl : List (Nat × (TypeId × TypeId)) := [(101, (3, 4))]
noncomputable def tE : Env := ⟨lookN tTl, lookN tFl, modeOf [(999999, .plain)], fun _ => none, keepOf tKl, fun t => memN t [999999], lookN tMl⟩
theorem tAllF : AllF Try.prog tFl := ⟨Try.func24, Try.func42, Try.func25, Try.func9, Try.func55, Try.func43, Try.func26, Try.func10, Try.func44, Try.func27, Try.func11, Try.func4, Try.func60, Try.func56, Try.func45, Try.func28, Try.func29, Try.func12, Try.func13, Try.func30, Try.func14, Try.func5, Try.func46, Try.func31, Try.func47, Try.func32, Try.func15, Try.func57, Try.func48, Try.func33, Try.func16, Try.func49, Try.func34, Try.func17, Try.func6, Try.func61, Try.func58, Try.func50, Try.func35, Try.func36, Try.func18, Try.func19, Try.func37, Try.func20, Try.func7, Try.func51, Try.func38, Try.func52, Try.func39, Try.func21, Try.func59, Try.func53, Try.func40, Try.func22, Try.func54, Try.func41, Try.func23, Try.func8, Try.func3, True.intro⟩
theorem tEok : EnvOk Try.prog tE ∧ ∀ t ti, tE.T t = some ti → ti.agg = true → flatOk tE ti.ls 0 ti.fs = true :=
  envOk rfl (by kernel_rfl) rfl rfl (by kernel_rfl) tAllF (by kernel_rfl) (by kernel_rfl) (eqs_ok rfl rfl (by kernel_rfl))
theorem tAt (f : FuncId) : PlainAt Try.prog tE f (callI tE f) := fun fn ps rs ds out h1 h2 h3 h4 h5 => by
  obtain ⟨k, hk⟩ := callI_iff.mp h5
  exact (icall_ok tEok.1 (modeOk_of rfl (by kernel_rfl)) (fun _ _ h => by cases h) k f).plain fn ps rs ds out h1 h2 h3 h4 hk
end Go.Proofs.Ytnihikajdbcoaaa.Vai
