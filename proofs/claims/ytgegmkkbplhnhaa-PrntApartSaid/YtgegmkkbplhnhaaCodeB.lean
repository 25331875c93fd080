/- The code of the functions, node by node (written by a program of mine). No conditions. -/
import Derived.Test.YtgegmkkbplhnhaaCodeA
section
set_option linter.unusedVariables false
set_option maxRecDepth 100000
namespace Go.Proofs.CfgA
open Go Go.Tm Go.Proofs

/-! 43: fettle.code.Num -/
noncomputable def n43_0 : Code := codeB Try.f43
noncomputable def n43_1 : Code := kid n43_0 false
noncomputable def n43_2 : Code := kid n43_0 true
noncomputable def n43_3 : Code := kid n43_2 false
noncomputable def n43_4 : Code := kid n43_2 true
noncomputable def n43_5 : Code := kid n43_4 false
noncomputable def n43_6 : Code := kid n43_4 true
noncomputable def n43_7 : Code := kid n43_6 false
noncomputable def n43_8 : Code := kid n43_7 false
noncomputable def n43_9 : Code := kid n43_7 true
noncomputable def n43_10 : Code := kid n43_9 false
noncomputable def n43_11 : Code := kid n43_10 false
noncomputable def n43_12 : Code := kid n43_11 false
noncomputable def n43_13 : Code := kid n43_12 false
noncomputable def n43_14 : Code := kid n43_12 true
noncomputable def n43_15 : Code := kid n43_14 false
noncomputable def n43_16 : Code := kid n43_14 true
noncomputable def n43_17 : Code := kid n43_11 true
noncomputable def n43_18 : Code := kid n43_17 false
noncomputable def n43_19 : Code := kid n43_18 false
noncomputable def n43_20 : Code := kid n43_17 true
noncomputable def n43_21 : Code := kid n43_6 true
noncomputable def n43_22 : Code := kid n43_21 false
noncomputable def n43_23 : Code := kid n43_21 true
@[simp] theorem e43_0 (fr : Fr) (st : St) : runI cfg 43 n43_0 fr st = thenR cfg 43 n43_2 (runI cfg 43 n43_1 fr st) := run_seq (by kernel_rfl)
@[simp] theorem e43_1 (fr : Fr) (st : St) : runI cfg 43 n43_1 fr st = ob (lookF fr 0) fun x0 => ob (lookF fr 1) fun x1 => (some (.normal, [(0, x0), (1, x1)], st) : Res) :=
  (runI_reg (c := n43_1) (id := 0) (ops := opsOf n43_1) (draw := false) (by kernel_rfl)).trans (by kernel_rfl)
@[simp] theorem e43_2 (fr : Fr) (st : St) : runI cfg 43 n43_2 fr st = thenR cfg 43 n43_4 (runI cfg 43 n43_3 fr st) := run_seq (by kernel_rfl)
@[simp] theorem e43_3 (fr : Fr) (st : St) : runI cfg 43 n43_3 fr st = ob (lookF fr 0) fun x0 => ob (lookF fr 1) fun x1 => ob (minmaxV true x1 (.d (.int .i64 0))) fun x8 => ob (minmaxV false x8 (.d (.int .i64 1099511627776))) fun x9 => (some (.normal, [(0, x0), (1, x9)], st) : Res) :=
  (runI_reg (c := n43_3) (id := 1) (ops := opsOf n43_3) (draw := false) (by kernel_rfl)).trans (by kernel_rfl)
@[simp] theorem e43_4 (fr : Fr) (st : St) : runI cfg 43 n43_4 fr st = thenR cfg 43 n43_6 (runI cfg 43 n43_5 fr st) := run_seq (by kernel_rfl)
@[simp] theorem e43_5 (fr : Fr) (st : St) : runI cfg 43 n43_5 fr st = ob (lookF fr 0) fun x0 => ob (lookF fr 1) fun x1 => ob (callI cfg 79 [x0] st) fun r1 => ob (callI cfg 78 [r1.1] r1.2) fun r2 => (some (.normal, [(1, x1), (5, r2.1)], r2.2) : Res) :=
  (runI_reg (c := n43_5) (id := 2) (ops := opsOf n43_5) (draw := false) (by kernel_rfl)).trans (by kernel_rfl)
@[simp] theorem e43_6 (fr : Fr) (st : St) : runI cfg 43 n43_6 fr st = thenR cfg 43 n43_21 (runI cfg 43 n43_7 fr st) := run_seq (by kernel_rfl)
@[simp] theorem e43_7 (fr : Fr) (st : St) : runI cfg 43 n43_7 fr st = thenR cfg 43 n43_9 (runI cfg 43 n43_8 fr st) := run_seq (by kernel_rfl)
@[simp] theorem e43_8 (fr : Fr) (st : St) : runI cfg 43 n43_8 fr st = ob (lookF fr 1) fun x1 => ob (lookF fr 5) fun x5 => (some (.normal, [(1, x1), (5, x5), (6, (.d (.int .i64 5)))], st) : Res) :=
  (runI_reg (c := n43_8) (id := 3) (ops := opsOf n43_8) (draw := false) (by kernel_rfl)).trans (by kernel_rfl)
@[simp] theorem e43_9 (fr : Fr) (st : St) : runI cfg 43 n43_9 fr st = blockI 0 (runI cfg 43 n43_10 fr st) := run_block (by kernel_rfl)
theorem l43_10 (fr : Fr) (st : St) : runI cfg 43 n43_10 fr st = loopR cfg 43 n43_10 st.H.length (runI cfg 43 n43_11 fr st) := run_loop (by kernel_rfl)
@[simp] theorem e43_11 (fr : Fr) (st : St) : runI cfg 43 n43_11 fr st = thenR cfg 43 n43_17 (runI cfg 43 n43_12 fr st) := run_seq (by kernel_rfl)
@[simp] theorem e43_12 (fr : Fr) (st : St) : runI cfg 43 n43_12 fr st = thenR cfg 43 n43_14 (runI cfg 43 n43_13 fr st) := run_seq (by kernel_rfl)
@[simp] theorem e43_13 (fr : Fr) (st : St) : runI cfg 43 n43_13 fr st = ob (lookF fr 1) fun x1 => ob (lookF fr 5) fun x5 => ob (lookF fr 6) fun x6 => ob (binV cfg.P (opAt n43_13 1) .geq 3 (.int .i64) x6 (.d (.int .i64 0))) fun x14 => (some (.normal, [(1, x1), (5, x5), (6, x6), (14, x14)], st) : Res) :=
  (runI_reg (c := n43_13) (id := 4) (ops := opsOf n43_13) (draw := false) (by kernel_rfl)).trans (by kernel_rfl)
@[simp] theorem e43_14 (fr : Fr) (st : St) : runI cfg 43 n43_14 fr st = ob (lookF fr 14) fun v => gC v none (runI cfg 43 n43_15 fr st) (runI cfg 43 n43_16 fr st) := run_cond (x := .tmp 14) (by kernel_rfl)
@[simp] theorem e43_15 (fr : Fr) (st : St) : runI cfg 43 n43_15 fr st = some (.normal, fr, st) := run_skip (by kernel_rfl)
@[simp] theorem e43_16 (fr : Fr) (st : St) : runI cfg 43 n43_16 fr st = some (.exit 0, fr, st) := run_exit (by kernel_rfl)
@[simp] theorem e43_17 (fr : Fr) (st : St) : runI cfg 43 n43_17 fr st = thenR cfg 43 n43_20 (runI cfg 43 n43_18 fr st) := run_seq (by kernel_rfl)
@[simp] theorem e43_18 (fr : Fr) (st : St) : runI cfg 43 n43_18 fr st = blockI 1 (runI cfg 43 n43_19 fr st) := run_block (by kernel_rfl)
@[simp] theorem e43_19 (fr : Fr) (st : St) : runI cfg 43 n43_19 fr st = ob (lookF fr 1) fun x1 => ob (lookF fr 5) fun x5 => ob (lookF fr 6) fun x6 => ob (binV cfg.P (opAt n43_19 3) .mul 3 (.int .i64) (.d (.int .i64 8)) x6) fun x20 => ob (binV cfg.P (opAt n43_19 4) .shr 3 (.int .i64) x1 x20) fun x21 => ob (convV cfg.P (opAt n43_19 5) false (some (.int .i64)) (some (.int .u8)) none none x21) fun x22 => ob (fillA 1 (repeatL [(.d (.int .u8 0))] 1) [(0, x22)]) fun c6 => ob (T.toDs c6) fun d6 => ob (appV 1 1 st x5 (.sl false 1 d6 .lit)) fun a7 => (some (.normal, [(1, x1), (5, a7.1), (6, x6)], ⟨st.H, a7.2⟩) : Res) :=
  (runI_reg (c := n43_19) (id := 6) (ops := opsOf n43_19) (draw := false) (by kernel_rfl)).trans (by kernel_rfl)
@[simp] theorem e43_20 (fr : Fr) (st : St) : runI cfg 43 n43_20 fr st = ob (lookF fr 1) fun x1 => ob (lookF fr 5) fun x5 => ob (lookF fr 6) fun x6 => ob (binV cfg.P (opAt n43_20 1) .sub 3 (.int .i64) x6 (.d (.int .i64 1))) fun x16 => (some (.normal, [(1, x1), (5, x5), (6, x16)], st) : Res) :=
  (runI_reg (c := n43_20) (id := 5) (ops := opsOf n43_20) (draw := false) (by kernel_rfl)).trans (by kernel_rfl)
@[simp] theorem e43_21 (fr : Fr) (st : St) : runI cfg 43 n43_21 fr st = thenR cfg 43 n43_23 (runI cfg 43 n43_22 fr st) := run_seq (by kernel_rfl)
@[simp] theorem e43_22 (fr : Fr) (st : St) : runI cfg 43 n43_22 fr st = ob (lookF fr 5) fun x5 => (some (.normal, [(4, x5)], st) : Res) :=
  (runI_reg (c := n43_22) (id := 7) (ops := opsOf n43_22) (draw := false) (by kernel_rfl)).trans (by kernel_rfl)
@[simp] theorem e43_23 (fr : Fr) (st : St) : runI cfg 43 n43_23 fr st = some (.ret, fr, st) := run_ret (by kernel_rfl)
@[simp] theorem z43 (fr : Fr) (st : St) : endR cfg Try.f43 (some (.ret, fr, st)) = ob (lookF fr 4) fun x0 => some (x0, st) := end_r.trans (by kernel_rfl)
@[simp] theorem w43 (fr : Fr) (st : St) : endR cfg Try.f43 (some (.normal, fr, st)) = ob (lookF fr 4) fun x0 => some (x0, st) := end_n.trans (by kernel_rfl)
theorem c43 (ts : List T) (st : St) : callI cfg 43 ts st = ob (closeAll ts) fun ts => backR st (endR cfg Try.f43 (runI cfg 43 n43_0 (enumF 0 ts) ⟨[], []⟩)) := call_pure (by kernel_rfl) (by kernel_rfl) (by kernel_rfl) (by kernel_rfl)
/-! 44: fettle.code.Bytes -/
noncomputable def n44_0 : Code := codeB Try.f44
noncomputable def n44_1 : Code := kid n44_0 false
noncomputable def n44_2 : Code := kid n44_0 true
noncomputable def n44_3 : Code := kid n44_2 false
noncomputable def n44_4 : Code := kid n44_2 true
@[simp] theorem e44_0 (fr : Fr) (st : St) : runI cfg 44 n44_0 fr st = thenR cfg 44 n44_2 (runI cfg 44 n44_1 fr st) := run_seq (by kernel_rfl)
@[simp] theorem e44_1 (fr : Fr) (st : St) : runI cfg 44 n44_1 fr st = ob (lookF fr 0) fun x0 => ob (lookF fr 1) fun x1 => (some (.normal, [(0, x0), (1, x1)], st) : Res) :=
  (runI_reg (c := n44_1) (id := 0) (ops := opsOf n44_1) (draw := false) (by kernel_rfl)).trans (by kernel_rfl)
@[simp] theorem e44_2 (fr : Fr) (st : St) : runI cfg 44 n44_2 fr st = thenR cfg 44 n44_4 (runI cfg 44 n44_3 fr st) := run_seq (by kernel_rfl)
@[simp] theorem e44_3 (fr : Fr) (st : St) : runI cfg 44 n44_3 fr st = ob (lookF fr 0) fun x0 => ob (lookF fr 1) fun x1 => ob (lenV (.slice 5) st.H x1) fun x7 => ob (callI cfg 43 [x0, x7] st) fun r3 => ob (appV 1 1 r3.2 r3.1 x1) fun a5 => (some (.normal, [(4, a5.1)], ⟨r3.2.H, a5.2⟩) : Res) :=
  (runI_reg (c := n44_3) (id := 1) (ops := opsOf n44_3) (draw := false) (by kernel_rfl)).trans (by kernel_rfl)
@[simp] theorem e44_4 (fr : Fr) (st : St) : runI cfg 44 n44_4 fr st = some (.ret, fr, st) := run_ret (by kernel_rfl)
@[simp] theorem z44 (fr : Fr) (st : St) : endR cfg Try.f44 (some (.ret, fr, st)) = ob (lookF fr 4) fun x0 => some (x0, st) := end_r.trans (by kernel_rfl)
@[simp] theorem w44 (fr : Fr) (st : St) : endR cfg Try.f44 (some (.normal, fr, st)) = ob (lookF fr 4) fun x0 => some (x0, st) := end_n.trans (by kernel_rfl)
theorem c44 (ts : List T) (st : St) : callI cfg 44 ts st = ob (closeAll ts) fun ts => backR st (endR cfg Try.f44 (runI cfg 44 n44_0 (enumF 0 ts) ⟨[], []⟩)) := call_pure (by kernel_rfl) (by kernel_rfl) (by kernel_rfl) (by kernel_rfl)
/-! 45: fettle.acts.Bytes -/
noncomputable def n45_0 : Code := codeB Try.f45
noncomputable def n45_1 : Code := kid n45_0 false
noncomputable def n45_2 : Code := kid n45_0 true
noncomputable def n45_3 : Code := kid n45_2 false
noncomputable def n45_4 : Code := kid n45_2 true
noncomputable def n45_5 : Code := kid n45_4 false
noncomputable def n45_6 : Code := kid n45_5 false
noncomputable def n45_7 : Code := kid n45_5 true
noncomputable def n45_8 : Code := kid n45_7 false
noncomputable def n45_9 : Code := kid n45_8 false
noncomputable def n45_10 : Code := kid n45_9 false
noncomputable def n45_11 : Code := kid n45_9 true
noncomputable def n45_12 : Code := kid n45_11 false
noncomputable def n45_13 : Code := kid n45_12 false
noncomputable def n45_14 : Code := kid n45_12 true
noncomputable def n45_15 : Code := kid n45_11 true
noncomputable def n45_16 : Code := kid n45_15 false
noncomputable def n45_17 : Code := kid n45_16 false
noncomputable def n45_18 : Code := kid n45_17 false
noncomputable def n45_19 : Code := kid n45_17 true
noncomputable def n45_20 : Code := kid n45_15 true
noncomputable def n45_21 : Code := kid n45_4 true
noncomputable def n45_22 : Code := kid n45_21 false
noncomputable def n45_23 : Code := kid n45_21 true
@[simp] theorem e45_0 (fr : Fr) (st : St) : runI cfg 45 n45_0 fr st = thenR cfg 45 n45_2 (runI cfg 45 n45_1 fr st) := run_seq (by kernel_rfl)
@[simp] theorem e45_1 (fr : Fr) (st : St) : runI cfg 45 n45_1 fr st = ob (lookF fr 0) fun x0 => (some (.normal, [(0, x0)], st) : Res) :=
  (runI_reg (c := n45_1) (id := 0) (ops := opsOf n45_1) (draw := false) (by kernel_rfl)).trans (by kernel_rfl)
@[simp] theorem e45_2 (fr : Fr) (st : St) : runI cfg 45 n45_2 fr st = thenR cfg 45 n45_4 (runI cfg 45 n45_3 fr st) := run_seq (by kernel_rfl)
@[simp] theorem e45_3 (fr : Fr) (st : St) : runI cfg 45 n45_3 fr st = ob (lookF fr 0) fun x0 => ob (lenV (.slice 47) st.H x0) fun x7 => ob (callI cfg 43 [nilS, x7] st) fun r2 => (some (.normal, [(0, x0), (3, r2.1)], r2.2) : Res) :=
  (runI_reg (c := n45_3) (id := 1) (ops := opsOf n45_3) (draw := false) (by kernel_rfl)).trans (by kernel_rfl)
@[simp] theorem e45_4 (fr : Fr) (st : St) : runI cfg 45 n45_4 fr st = thenR cfg 45 n45_21 (runI cfg 45 n45_5 fr st) := run_seq (by kernel_rfl)
@[simp] theorem e45_5 (fr : Fr) (st : St) : runI cfg 45 n45_5 fr st = thenR cfg 45 n45_7 (runI cfg 45 n45_6 fr st) := run_seq (by kernel_rfl)
@[simp] theorem e45_6 (fr : Fr) (st : St) : runI cfg 45 n45_6 fr st = ob (lookF fr 0) fun x0 => ob (lookF fr 3) fun x3 => ob (lenV (.slice 47) st.H x0) fun x10 => (some (.normal, [(3, x3), (9, x0), (10, x10), (11, (.d (.int .i64 0)))], st) : Res) :=
  (runI_reg (c := n45_6) (id := 2) (ops := opsOf n45_6) (draw := false) (by kernel_rfl)).trans (by kernel_rfl)
@[simp] theorem e45_7 (fr : Fr) (st : St) : runI cfg 45 n45_7 fr st = blockI 0 (runI cfg 45 n45_8 fr st) := run_block (by kernel_rfl)
theorem l45_8 (fr : Fr) (st : St) : runI cfg 45 n45_8 fr st = loopR cfg 45 n45_8 st.H.length (runI cfg 45 n45_9 fr st) := run_loop (by kernel_rfl)
@[simp] theorem e45_9 (fr : Fr) (st : St) : runI cfg 45 n45_9 fr st = thenR cfg 45 n45_11 (runI cfg 45 n45_10 fr st) := run_seq (by kernel_rfl)
@[simp] theorem e45_10 (fr : Fr) (st : St) : runI cfg 45 n45_10 fr st = ob (lookF fr 3) fun x3 => ob (lookF fr 9) fun x9 => ob (lookF fr 10) fun x10 => ob (lookF fr 11) fun x11 => ob (binV cfg.P (opAt n45_10 0) .lss 3 (.int .i64) x11 x10) fun x12 => (some (.normal, [(3, x3), (9, x9), (10, x10), (11, x11), (12, x12)], st) : Res) :=
  (runI_reg (c := n45_10) (id := 3) (ops := opsOf n45_10) (draw := false) (by kernel_rfl)).trans (by kernel_rfl)
@[simp] theorem e45_11 (fr : Fr) (st : St) : runI cfg 45 n45_11 fr st = thenR cfg 45 n45_15 (runI cfg 45 n45_12 fr st) := run_seq (by kernel_rfl)
@[simp] theorem e45_12 (fr : Fr) (st : St) : runI cfg 45 n45_12 fr st = ob (lookF fr 12) fun v => gC v none (runI cfg 45 n45_13 fr st) (runI cfg 45 n45_14 fr st) := run_cond (x := .tmp 12) (by kernel_rfl)
@[simp] theorem e45_13 (fr : Fr) (st : St) : runI cfg 45 n45_13 fr st = some (.normal, fr, st) := run_skip (by kernel_rfl)
@[simp] theorem e45_14 (fr : Fr) (st : St) : runI cfg 45 n45_14 fr st = some (.exit 0, fr, st) := run_exit (by kernel_rfl)
@[simp] theorem e45_15 (fr : Fr) (st : St) : runI cfg 45 n45_15 fr st = thenR cfg 45 n45_20 (runI cfg 45 n45_16 fr st) := run_seq (by kernel_rfl)
@[simp] theorem e45_16 (fr : Fr) (st : St) : runI cfg 45 n45_16 fr st = blockI 1 (runI cfg 45 n45_17 fr st) := run_block (by kernel_rfl)
@[simp] theorem e45_17 (fr : Fr) (st : St) : runI cfg 45 n45_17 fr st = thenR cfg 45 n45_19 (runI cfg 45 n45_18 fr st) := run_seq (by kernel_rfl)
@[simp] theorem e45_18 (fr : Fr) (st : St) : runI cfg 45 n45_18 fr st = ob (lookF fr 3) fun x3 => ob (lookF fr 9) fun x9 => ob (lookF fr 10) fun x10 => ob (lookF fr 11) fun x11 => ob (ixV 3 x9 x11) fun x13 => ob (loadV 3 true st.H x13) fun x14 => ob (storeV 3 (st.H ++ [.cells [(.d (.int .i64 0)), (.d (.int .i64 0)), (.d (.string ByteArray.empty))]]) (.ptr st.H.length 0) x14) fun h3 => (some (.normal, [(3, x3), (5, (.ptr st.H.length 0)), (9, x9), (10, x10), (11, x11)], ⟨h3, st.E⟩) : Res) :=
  (runI_reg (c := n45_18) (id := 4) (ops := opsOf n45_18) (draw := false) (by kernel_rfl)).trans (by kernel_rfl)
@[simp] theorem e45_19 (fr : Fr) (st : St) : runI cfg 45 n45_19 fr st = ob (lookF fr 3) fun x3 => ob (lookF fr 5) fun x5 => ob (lookF fr 9) fun x9 => ob (lookF fr 10) fun x10 => ob (lookF fr 11) fun x11 => ob (addrV 0 x5) fun x16 => ob (loadV 1 false st.H x16) fun x17 => ob (callI cfg 43 [x3, x17] st) fun r3 => ob (addrV 1 x5) fun x19 => ob (loadV 1 false r3.2.H x19) fun x20 => ob (callI cfg 43 [r3.1, x20] r3.2) fun r6 => ob (addrV 2 x5) fun x22 => ob (loadV 1 false r6.2.H x22) fun x23 => ob (convV cfg.P (opAt n45_19 9) false (some .string) (some (.slice 5)) none (some (.int .u8)) x23) fun x24 => ob (callI cfg 44 [r6.1, x24] r6.2) fun r10 => (some (.normal, [(3, r10.1), (9, x9), (10, x10), (11, x11)], r10.2) : Res) :=
  (runI_reg (c := n45_19) (id := 5) (ops := opsOf n45_19) (draw := true) (by kernel_rfl)).trans (by kernel_rfl)
@[simp] theorem e45_20 (fr : Fr) (st : St) : runI cfg 45 n45_20 fr st = ob (lookF fr 3) fun x3 => ob (lookF fr 9) fun x9 => ob (lookF fr 10) fun x10 => ob (lookF fr 11) fun x11 => ob (binV cfg.P (opAt n45_20 0) .add 3 (.int .i64) x11 (.d (.int .i64 1))) fun x26 => (some (.normal, [(3, x3), (9, x9), (10, x10), (11, x26)], st) : Res) :=
  (runI_reg (c := n45_20) (id := 6) (ops := opsOf n45_20) (draw := false) (by kernel_rfl)).trans (by kernel_rfl)
@[simp] theorem e45_21 (fr : Fr) (st : St) : runI cfg 45 n45_21 fr st = thenR cfg 45 n45_23 (runI cfg 45 n45_22 fr st) := run_seq (by kernel_rfl)
@[simp] theorem e45_22 (fr : Fr) (st : St) : runI cfg 45 n45_22 fr st = ob (lookF fr 3) fun x3 => (some (.normal, [(2, x3)], st) : Res) :=
  (runI_reg (c := n45_22) (id := 7) (ops := opsOf n45_22) (draw := false) (by kernel_rfl)).trans (by kernel_rfl)
@[simp] theorem e45_23 (fr : Fr) (st : St) : runI cfg 45 n45_23 fr st = some (.ret, fr, st) := run_ret (by kernel_rfl)
@[simp] theorem z45 (fr : Fr) (st : St) : endR cfg Try.f45 (some (.ret, fr, st)) = ob (lookF fr 2) fun x0 => some (x0, st) := end_r.trans (by kernel_rfl)
@[simp] theorem w45 (fr : Fr) (st : St) : endR cfg Try.f45 (some (.normal, fr, st)) = ob (lookF fr 2) fun x0 => some (x0, st) := end_n.trans (by kernel_rfl)
theorem c45 (ts : List T) (st : St) : callI cfg 45 ts st = ob (closeAll ts) fun ts => backR st (endR cfg Try.f45 (runI cfg 45 n45_0 (enumF 0 ts) ⟨[], []⟩)) := call_pure (by kernel_rfl) (by kernel_rfl) (by kernel_rfl) (by kernel_rfl)
/-! 46: fettle.code.Read -/
noncomputable def n46_0 : Code := codeB Try.f46
noncomputable def n46_1 : Code := kid n46_0 false
noncomputable def n46_2 : Code := kid n46_0 true
noncomputable def n46_3 : Code := kid n46_2 false
noncomputable def n46_4 : Code := kid n46_2 true
@[simp] theorem e46_0 (fr : Fr) (st : St) : runI cfg 46 n46_0 fr st = thenR cfg 46 n46_2 (runI cfg 46 n46_1 fr st) := run_seq (by kernel_rfl)
@[simp] theorem e46_1 (fr : Fr) (st : St) : runI cfg 46 n46_1 fr st = ob (lookF fr 0) fun x0 => (some (.normal, [(0, x0)], st) : Res) :=
  (runI_reg (c := n46_1) (id := 0) (ops := opsOf n46_1) (draw := false) (by kernel_rfl)).trans (by kernel_rfl)
@[simp] theorem e46_2 (fr : Fr) (st : St) : runI cfg 46 n46_2 fr st = thenR cfg 46 n46_4 (runI cfg 46 n46_3 fr st) := run_seq (by kernel_rfl)
@[simp] theorem e46_3 (fr : Fr) (st : St) : runI cfg 46 n46_3 fr st = ob (lookF fr 0) fun x0 => ob (callI cfg 79 [x0] st) fun r1 => ob (fillS [(0, 1), (1, 1)] [nilS, ff] [(0, r1.1)]) fun c2 => gt ((T.cells (.agg c2)).all T.one = true) ((some (.normal, [(2, (.ptr r1.2.H.length 0))], ⟨(r1.2.H ++ [.cells (T.cells (.agg c2))]), r1.2.E⟩) : Res)) :=
  (runI_reg (c := n46_3) (id := 1) (ops := opsOf n46_3) (draw := false) (by kernel_rfl)).trans (by kernel_rfl)
@[simp] theorem e46_4 (fr : Fr) (st : St) : runI cfg 46 n46_4 fr st = some (.ret, fr, st) := run_ret (by kernel_rfl)
@[simp] theorem z46 (fr : Fr) (st : St) : endR cfg Try.f46 (some (.ret, fr, st)) = ob (lookF fr 2) fun x0 => some (x0, st) := end_r.trans (by kernel_rfl)
@[simp] theorem w46 (fr : Fr) (st : St) : endR cfg Try.f46 (some (.normal, fr, st)) = ob (lookF fr 2) fun x0 => some (x0, st) := end_n.trans (by kernel_rfl)
theorem c46 (ts : List T) (st : St) : callI cfg 46 ts st = endR cfg Try.f46 (runI cfg 46 n46_0 (enumF 0 ts) st) := call_inl (by kernel_rfl) (by kernel_rfl) (by kernel_rfl) (by kernel_rfl)
/-! 47: fettle.prnt.action -/
noncomputable def n47_0 : Code := codeB Try.f47
noncomputable def n47_1 : Code := kid n47_0 false
noncomputable def n47_2 : Code := kid n47_0 true
noncomputable def n47_3 : Code := kid n47_2 false
noncomputable def n47_4 : Code := kid n47_2 true
noncomputable def n47_5 : Code := kid n47_4 false
noncomputable def n47_6 : Code := kid n47_4 true
noncomputable def n47_7 : Code := kid n47_6 false
noncomputable def n47_8 : Code := kid n47_7 false
noncomputable def n47_9 : Code := kid n47_7 true
noncomputable def n47_10 : Code := kid n47_9 false
noncomputable def n47_11 : Code := kid n47_10 false
noncomputable def n47_12 : Code := kid n47_11 false
noncomputable def n47_13 : Code := kid n47_11 true
noncomputable def n47_14 : Code := kid n47_13 false
noncomputable def n47_15 : Code := kid n47_14 false
noncomputable def n47_16 : Code := kid n47_14 true
noncomputable def n47_17 : Code := kid n47_13 true
noncomputable def n47_18 : Code := kid n47_17 false
noncomputable def n47_19 : Code := kid n47_18 false
noncomputable def n47_20 : Code := kid n47_19 false
noncomputable def n47_21 : Code := kid n47_19 true
noncomputable def n47_22 : Code := kid n47_21 false
noncomputable def n47_23 : Code := kid n47_21 true
noncomputable def n47_24 : Code := kid n47_17 true
noncomputable def n47_25 : Code := kid n47_6 true
noncomputable def n47_26 : Code := kid n47_25 false
noncomputable def n47_27 : Code := kid n47_25 true
@[simp] theorem e47_0 (fr : Fr) (st : St) : runI cfg 47 n47_0 fr st = thenR cfg 47 n47_2 (runI cfg 47 n47_1 fr st) := run_seq (by kernel_rfl)
@[simp] theorem e47_1 (fr : Fr) (st : St) : runI cfg 47 n47_1 fr st = ob (lookF fr 0) fun x0 => (some (.normal, [(0, x0)], st) : Res) :=
  (runI_reg (c := n47_1) (id := 0) (ops := opsOf n47_1) (draw := false) (by kernel_rfl)).trans (by kernel_rfl)
@[simp] theorem e47_2 (fr : Fr) (st : St) : runI cfg 47 n47_2 fr st = thenR cfg 47 n47_4 (runI cfg 47 n47_3 fr st) := run_seq (by kernel_rfl)
@[simp] theorem e47_3 (fr : Fr) (st : St) : runI cfg 47 n47_3 fr st = ob (lookF fr 0) fun x0 => ob (callI cfg 46 [x0] st) fun r1 => (some (.normal, [(4, r1.1)], r1.2) : Res) :=
  (runI_reg (c := n47_3) (id := 1) (ops := opsOf n47_3) (draw := false) (by kernel_rfl)).trans (by kernel_rfl)
@[simp] theorem e47_4 (fr : Fr) (st : St) : runI cfg 47 n47_4 fr st = thenR cfg 47 n47_6 (runI cfg 47 n47_5 fr st) := run_seq (by kernel_rfl)
@[simp] theorem e47_5 (fr : Fr) (st : St) : runI cfg 47 n47_5 fr st = ob (lookF fr 4) fun x4 => (some (.normal, [(4, x4), (5, nilS)], st) : Res) :=
  (runI_reg (c := n47_5) (id := 2) (ops := opsOf n47_5) (draw := false) (by kernel_rfl)).trans (by kernel_rfl)
@[simp] theorem e47_6 (fr : Fr) (st : St) : runI cfg 47 n47_6 fr st = thenR cfg 47 n47_25 (runI cfg 47 n47_7 fr st) := run_seq (by kernel_rfl)
@[simp] theorem e47_7 (fr : Fr) (st : St) : runI cfg 47 n47_7 fr st = thenR cfg 47 n47_9 (runI cfg 47 n47_8 fr st) := run_seq (by kernel_rfl)
@[simp] theorem e47_8 (fr : Fr) (st : St) : runI cfg 47 n47_8 fr st = ob (lookF fr 4) fun x4 => ob (lookF fr 5) fun x5 => ob (callI cfg 49 [x4, (.d (.int .i64 8))] st) fun r1 => (some (.normal, [(4, x4), (5, x5), (10, r1.1), (11, (.d (.int .i64 0)))], r1.2) : Res) :=
  (runI_reg (c := n47_8) (id := 3) (ops := opsOf n47_8) (draw := false) (by kernel_rfl)).trans (by kernel_rfl)
@[simp] theorem e47_9 (fr : Fr) (st : St) : runI cfg 47 n47_9 fr st = blockI 0 (runI cfg 47 n47_10 fr st) := run_block (by kernel_rfl)
theorem l47_10 (fr : Fr) (st : St) : runI cfg 47 n47_10 fr st = loopR cfg 47 n47_10 st.H.length (runI cfg 47 n47_11 fr st) := run_loop (by kernel_rfl)
@[simp] theorem e47_11 (fr : Fr) (st : St) : runI cfg 47 n47_11 fr st = thenR cfg 47 n47_13 (runI cfg 47 n47_12 fr st) := run_seq (by kernel_rfl)
@[simp] theorem e47_12 (fr : Fr) (st : St) : runI cfg 47 n47_12 fr st = ob (lookF fr 4) fun x4 => ob (lookF fr 5) fun x5 => ob (lookF fr 10) fun x10 => ob (lookF fr 11) fun x11 => ob (binV cfg.P (opAt n47_12 0) .lss 3 (.int .i64) x11 x10) fun x12 => (some (.normal, [(4, x4), (5, x5), (10, x10), (11, x11), (12, x12)], st) : Res) :=
  (runI_reg (c := n47_12) (id := 4) (ops := opsOf n47_12) (draw := false) (by kernel_rfl)).trans (by kernel_rfl)
@[simp] theorem e47_13 (fr : Fr) (st : St) : runI cfg 47 n47_13 fr st = thenR cfg 47 n47_17 (runI cfg 47 n47_14 fr st) := run_seq (by kernel_rfl)
@[simp] theorem e47_14 (fr : Fr) (st : St) : runI cfg 47 n47_14 fr st = ob (lookF fr 12) fun v => gC v none (runI cfg 47 n47_15 fr st) (runI cfg 47 n47_16 fr st) := run_cond (x := .tmp 12) (by kernel_rfl)
@[simp] theorem e47_15 (fr : Fr) (st : St) : runI cfg 47 n47_15 fr st = some (.normal, fr, st) := run_skip (by kernel_rfl)
@[simp] theorem e47_16 (fr : Fr) (st : St) : runI cfg 47 n47_16 fr st = some (.exit 0, fr, st) := run_exit (by kernel_rfl)
@[simp] theorem e47_17 (fr : Fr) (st : St) : runI cfg 47 n47_17 fr st = thenR cfg 47 n47_24 (runI cfg 47 n47_18 fr st) := run_seq (by kernel_rfl)
@[simp] theorem e47_18 (fr : Fr) (st : St) : runI cfg 47 n47_18 fr st = blockI 1 (runI cfg 47 n47_19 fr st) := run_block (by kernel_rfl)
@[simp] theorem e47_19 (fr : Fr) (st : St) : runI cfg 47 n47_19 fr st = thenR cfg 47 n47_21 (runI cfg 47 n47_20 fr st) := run_seq (by kernel_rfl)
@[simp] theorem e47_20 (fr : Fr) (st : St) : runI cfg 47 n47_20 fr st = ob (lookF fr 4) fun x4 => ob (lookF fr 5) fun x5 => ob (lookF fr 10) fun x10 => ob (lookF fr 11) fun x11 => ob (callI cfg 49 [x4, (.d (.int .i64 11))] st) fun r1 => ob (callI cfg 49 [x4, (.d (.int .i64 999))] r1.2) fun r3 => ob (fillS [(0, 1), (1, 1), (2, 1)] [(.d (.int .i64 0)), (.d (.int .i64 0)), (.d (.string ByteArray.empty))] [(0, r1.1), (1, r3.1)]) fun c4 => ob (storeV 3 (r3.2.H ++ [.cells [(.d (.int .i64 0)), (.d (.int .i64 0)), (.d (.string ByteArray.empty))]]) (.ptr r3.2.H.length 0) (.agg c4)) fun h6 => (some (.normal, [(4, x4), (5, x5), (6, (.ptr r3.2.H.length 0)), (10, x10), (11, x11)], ⟨h6, r3.2.E⟩) : Res) :=
  (runI_reg (c := n47_20) (id := 5) (ops := opsOf n47_20) (draw := false) (by kernel_rfl)).trans (by kernel_rfl)
@[simp] theorem e47_21 (fr : Fr) (st : St) : runI cfg 47 n47_21 fr st = thenR cfg 47 n47_23 (runI cfg 47 n47_22 fr st) := run_seq (by kernel_rfl)
@[simp] theorem e47_22 (fr : Fr) (st : St) : runI cfg 47 n47_22 fr st = ob (lookF fr 4) fun x4 => ob (lookF fr 5) fun x5 => ob (lookF fr 6) fun x6 => ob (lookF fr 10) fun x10 => ob (lookF fr 11) fun x11 => ob (callI cfg 48 [x4, (.d (.int .i64 256))] st) fun r1 => ob (convV cfg.P (opAt n47_22 2) false (some (.slice 5)) (some .string) (some (.int .u8)) none r1.1) fun x20 => ob (addrV 2 x6) fun x21 => ob (storeV 1 r1.2.H x21 x20) fun h4 => (some (.normal, [(4, x4), (5, x5), (6, x6), (10, x10), (11, x11)], ⟨h4, r1.2.E⟩) : Res) :=
  (runI_reg (c := n47_22) (id := 6) (ops := opsOf n47_22) (draw := false) (by kernel_rfl)).trans (by kernel_rfl)
@[simp] theorem e47_23 (fr : Fr) (st : St) : runI cfg 47 n47_23 fr st = ob (lookF fr 4) fun x4 => ob (lookF fr 5) fun x5 => ob (lookF fr 6) fun x6 => ob (lookF fr 10) fun x10 => ob (lookF fr 11) fun x11 => ob (loadV 3 true st.H x6) fun x23 => ob (fillA 3 (repeatL [(.d (.int .i64 0)), (.d (.int .i64 0)), (.d (.string ByteArray.empty))] 1) [(0, x23)]) fun c2 => ob (T.toDs c2) fun d2 => ob (appV 3 32 st x5 (.sl false 1 d2 .lit)) fun a3 => (some (.normal, [(4, x4), (5, a3.1), (10, x10), (11, x11)], ⟨st.H, a3.2⟩) : Res) :=
  (runI_reg (c := n47_23) (id := 7) (ops := opsOf n47_23) (draw := false) (by kernel_rfl)).trans (by kernel_rfl)
@[simp] theorem e47_24 (fr : Fr) (st : St) : runI cfg 47 n47_24 fr st = ob (lookF fr 4) fun x4 => ob (lookF fr 5) fun x5 => ob (lookF fr 10) fun x10 => ob (lookF fr 11) fun x11 => ob (binV cfg.P (opAt n47_24 0) .add 3 (.int .i64) x11 (.d (.int .i64 1))) fun x26 => (some (.normal, [(4, x4), (5, x5), (10, x10), (11, x26)], st) : Res) :=
  (runI_reg (c := n47_24) (id := 8) (ops := opsOf n47_24) (draw := false) (by kernel_rfl)).trans (by kernel_rfl)
@[simp] theorem e47_25 (fr : Fr) (st : St) : runI cfg 47 n47_25 fr st = thenR cfg 47 n47_27 (runI cfg 47 n47_26 fr st) := run_seq (by kernel_rfl)
@[simp] theorem e47_26 (fr : Fr) (st : St) : runI cfg 47 n47_26 fr st = ob (lookF fr 4) fun x4 => ob (lookF fr 5) fun x5 => ob (callI cfg 50 [x4] st) fun r2 => gC r2.1 (none) (ob (callI cfg 80 [x5] r2.2) fun r5 => (some (.normal, [(2, x5), (3, r5.1)], r5.2) : Res)) ((some (.normal, [(2, x5), (3, ff)], r2.2) : Res)) :=
  (runI_reg (c := n47_26) (id := 9) (ops := opsOf n47_26) (draw := false) (by kernel_rfl)).trans (by kernel_rfl)
@[simp] theorem e47_27 (fr : Fr) (st : St) : runI cfg 47 n47_27 fr st = some (.ret, fr, st) := run_ret (by kernel_rfl)
@[simp] theorem z47 (fr : Fr) (st : St) : endR cfg Try.f47 (some (.ret, fr, st)) = ob (lookF fr 2) fun x0 => ob (lookF fr 3) fun x1 => some (.tup [x0, x1], st) := end_r.trans (by kernel_rfl)
@[simp] theorem w47 (fr : Fr) (st : St) : endR cfg Try.f47 (some (.normal, fr, st)) = ob (lookF fr 2) fun x0 => ob (lookF fr 3) fun x1 => some (.tup [x0, x1], st) := end_n.trans (by kernel_rfl)
theorem c47 (ts : List T) (st : St) : callI cfg 47 ts st = ob (closeAll ts) fun ts => backR st (endR cfg Try.f47 (runI cfg 47 n47_0 (enumF 0 ts) ⟨[], []⟩)) := call_pure (by kernel_rfl) (by kernel_rfl) (by kernel_rfl) (by kernel_rfl)
/-! 48: (*fettle.code.Reader).Bytes -/
noncomputable def n48_0 : Code := codeB Try.f48
noncomputable def n48_1 : Code := kid n48_0 false
noncomputable def n48_2 : Code := kid n48_0 true
noncomputable def n48_3 : Code := kid n48_2 false
noncomputable def n48_4 : Code := kid n48_2 true
noncomputable def n48_5 : Code := kid n48_4 false
noncomputable def n48_6 : Code := kid n48_5 false
noncomputable def n48_7 : Code := kid n48_5 true
noncomputable def n48_8 : Code := kid n48_7 false
noncomputable def n48_9 : Code := kid n48_8 false
noncomputable def n48_10 : Code := kid n48_8 true
noncomputable def n48_11 : Code := kid n48_10 false
noncomputable def n48_12 : Code := kid n48_10 true
noncomputable def n48_13 : Code := kid n48_7 true
noncomputable def n48_14 : Code := kid n48_4 true
noncomputable def n48_15 : Code := kid n48_14 false
noncomputable def n48_16 : Code := kid n48_14 true
noncomputable def n48_17 : Code := kid n48_16 false
noncomputable def n48_18 : Code := kid n48_16 true
noncomputable def n48_19 : Code := kid n48_18 false
noncomputable def n48_20 : Code := kid n48_18 true
@[simp] theorem e48_0 (fr : Fr) (st : St) : runI cfg 48 n48_0 fr st = thenR cfg 48 n48_2 (runI cfg 48 n48_1 fr st) := run_seq (by kernel_rfl)
@[simp] theorem e48_1 (fr : Fr) (st : St) : runI cfg 48 n48_1 fr st = ob (lookF fr 0) fun x0 => ob (lookF fr 1) fun x1 => (some (.normal, [(0, x0), (1, x1)], st) : Res) :=
  (runI_reg (c := n48_1) (id := 0) (ops := opsOf n48_1) (draw := false) (by kernel_rfl)).trans (by kernel_rfl)
@[simp] theorem e48_2 (fr : Fr) (st : St) : runI cfg 48 n48_2 fr st = thenR cfg 48 n48_4 (runI cfg 48 n48_3 fr st) := run_seq (by kernel_rfl)
@[simp] theorem e48_3 (fr : Fr) (st : St) : runI cfg 48 n48_3 fr st = ob (lookF fr 0) fun x0 => ob (lookF fr 1) fun x1 => ob (callI cfg 49 [x0, x1] st) fun r2 => (some (.normal, [(0, x0), (5, r2.1)], r2.2) : Res) :=
  (runI_reg (c := n48_3) (id := 1) (ops := opsOf n48_3) (draw := false) (by kernel_rfl)).trans (by kernel_rfl)
@[simp] theorem e48_4 (fr : Fr) (st : St) : runI cfg 48 n48_4 fr st = thenR cfg 48 n48_14 (runI cfg 48 n48_5 fr st) := run_seq (by kernel_rfl)
@[simp] theorem e48_5 (fr : Fr) (st : St) : runI cfg 48 n48_5 fr st = thenR cfg 48 n48_7 (runI cfg 48 n48_6 fr st) := run_seq (by kernel_rfl)
@[simp] theorem e48_6 (fr : Fr) (st : St) : runI cfg 48 n48_6 fr st = ob (lookF fr 0) fun x0 => ob (lookF fr 5) fun x5 => ob (nilV x0) fun x12 => ob (addrV 0 x12) fun x13 => ob (loadV 1 false st.H x13) fun x14 => ob (lenV (.slice 5) st.H x14) fun x15 => ob (binV cfg.P (opAt n48_6 6) .gtr 3 (.int .i64) x5 x15) fun x16 => (some (.normal, [(0, x0), (5, x5), (16, x16)], st) : Res) :=
  (runI_reg (c := n48_6) (id := 2) (ops := opsOf n48_6) (draw := false) (by kernel_rfl)).trans (by kernel_rfl)
@[simp] theorem e48_7 (fr : Fr) (st : St) : runI cfg 48 n48_7 fr st = ob (lookF fr 16) fun v => gC v none (runI cfg 48 n48_8 fr st) (runI cfg 48 n48_13 fr st) := run_cond (x := .tmp 16) (by kernel_rfl)
@[simp] theorem e48_8 (fr : Fr) (st : St) : runI cfg 48 n48_8 fr st = thenR cfg 48 n48_10 (runI cfg 48 n48_9 fr st) := run_seq (by kernel_rfl)
@[simp] theorem e48_9 (fr : Fr) (st : St) : runI cfg 48 n48_9 fr st = ob (lookF fr 0) fun x0 => ob (callI cfg 81 [x0] st) fun r1 => (some (.normal, [], r1.2) : Res) :=
  (runI_reg (c := n48_9) (id := 3) (ops := opsOf n48_9) (draw := false) (by kernel_rfl)).trans (by kernel_rfl)
@[simp] theorem e48_10 (fr : Fr) (st : St) : runI cfg 48 n48_10 fr st = thenR cfg 48 n48_12 (runI cfg 48 n48_11 fr st) := run_seq (by kernel_rfl)
@[simp] theorem e48_11 (fr : Fr) (st : St) : runI cfg 48 n48_11 fr st = (some (.normal, [(4, nilS)], st) : Res) :=
  (runI_reg (c := n48_11) (id := 4) (ops := opsOf n48_11) (draw := false) (by kernel_rfl)).trans (by kernel_rfl)
@[simp] theorem e48_12 (fr : Fr) (st : St) : runI cfg 48 n48_12 fr st = some (.ret, fr, st) := run_ret (by kernel_rfl)
@[simp] theorem e48_13 (fr : Fr) (st : St) : runI cfg 48 n48_13 fr st = some (.normal, fr, st) := run_skip (by kernel_rfl)
@[simp] theorem e48_14 (fr : Fr) (st : St) : runI cfg 48 n48_14 fr st = thenR cfg 48 n48_16 (runI cfg 48 n48_15 fr st) := run_seq (by kernel_rfl)
@[simp] theorem e48_15 (fr : Fr) (st : St) : runI cfg 48 n48_15 fr st = ob (lookF fr 0) fun x0 => ob (lookF fr 5) fun x5 => ob (nilV x0) fun x20 => ob (addrV 0 x20) fun x21 => ob (loadV 1 false st.H x21) fun x22 => ob (sliceV (.slice 5) (some 1) x22 none (some x5) none) fun x24 => ob (callI cfg 79 [x24] st) fun r6 => (some (.normal, [(0, x0), (5, x5), (6, r6.1)], r6.2) : Res) :=
  (runI_reg (c := n48_15) (id := 5) (ops := opsOf n48_15) (draw := false) (by kernel_rfl)).trans (by kernel_rfl)
@[simp] theorem e48_16 (fr : Fr) (st : St) : runI cfg 48 n48_16 fr st = thenR cfg 48 n48_18 (runI cfg 48 n48_17 fr st) := run_seq (by kernel_rfl)
@[simp] theorem e48_17 (fr : Fr) (st : St) : runI cfg 48 n48_17 fr st = ob (lookF fr 0) fun x0 => ob (lookF fr 5) fun x5 => ob (lookF fr 6) fun x6 => ob (nilV x0) fun x28 => ob (addrV 0 x28) fun x29 => ob (loadV 1 false st.H x29) fun x30 => ob (sliceV (.slice 5) (some 1) x30 (some x5) none none) fun x32 => ob (nilV x0) fun x33 => ob (addrV 0 x33) fun x34 => ob (storeV 1 st.H x34 x32) fun h9 => (some (.normal, [(6, x6)], ⟨h9, st.E⟩) : Res) :=
  (runI_reg (c := n48_17) (id := 6) (ops := opsOf n48_17) (draw := false) (by kernel_rfl)).trans (by kernel_rfl)
@[simp] theorem e48_18 (fr : Fr) (st : St) : runI cfg 48 n48_18 fr st = thenR cfg 48 n48_20 (runI cfg 48 n48_19 fr st) := run_seq (by kernel_rfl)
@[simp] theorem e48_19 (fr : Fr) (st : St) : runI cfg 48 n48_19 fr st = ob (lookF fr 6) fun x6 => (some (.normal, [(4, x6)], st) : Res) :=
  (runI_reg (c := n48_19) (id := 7) (ops := opsOf n48_19) (draw := false) (by kernel_rfl)).trans (by kernel_rfl)
@[simp] theorem e48_20 (fr : Fr) (st : St) : runI cfg 48 n48_20 fr st = some (.ret, fr, st) := run_ret (by kernel_rfl)
@[simp] theorem z48 (fr : Fr) (st : St) : endR cfg Try.f48 (some (.ret, fr, st)) = ob (lookF fr 4) fun x0 => some (x0, st) := end_r.trans (by kernel_rfl)
@[simp] theorem w48 (fr : Fr) (st : St) : endR cfg Try.f48 (some (.normal, fr, st)) = ob (lookF fr 4) fun x0 => some (x0, st) := end_n.trans (by kernel_rfl)
theorem c48 (ts : List T) (st : St) : callI cfg 48 ts st = endR cfg Try.f48 (runI cfg 48 n48_0 (enumF 0 ts) st) := call_inl (by kernel_rfl) (by kernel_rfl) (by kernel_rfl) (by kernel_rfl)
/-! 49: (*fettle.code.Reader).Num -/
noncomputable def n49_0 : Code := codeB Try.f49
noncomputable def n49_1 : Code := kid n49_0 false
noncomputable def n49_2 : Code := kid n49_0 true
noncomputable def n49_3 : Code := kid n49_2 false
noncomputable def n49_4 : Code := kid n49_3 false
noncomputable def n49_5 : Code := kid n49_3 true
noncomputable def n49_6 : Code := kid n49_5 false
noncomputable def n49_7 : Code := kid n49_6 false
noncomputable def n49_8 : Code := kid n49_6 true
noncomputable def n49_9 : Code := kid n49_8 false
noncomputable def n49_10 : Code := kid n49_8 true
noncomputable def n49_11 : Code := kid n49_5 true
noncomputable def n49_12 : Code := kid n49_2 true
noncomputable def n49_13 : Code := kid n49_12 false
noncomputable def n49_14 : Code := kid n49_12 true
noncomputable def n49_15 : Code := kid n49_14 false
noncomputable def n49_16 : Code := kid n49_15 false
noncomputable def n49_17 : Code := kid n49_15 true
noncomputable def n49_18 : Code := kid n49_17 false
noncomputable def n49_19 : Code := kid n49_18 false
noncomputable def n49_20 : Code := kid n49_19 false
noncomputable def n49_21 : Code := kid n49_19 true
noncomputable def n49_22 : Code := kid n49_21 false
noncomputable def n49_23 : Code := kid n49_22 false
noncomputable def n49_24 : Code := kid n49_22 true
noncomputable def n49_25 : Code := kid n49_21 true
noncomputable def n49_26 : Code := kid n49_25 false
noncomputable def n49_27 : Code := kid n49_26 false
noncomputable def n49_28 : Code := kid n49_27 false
noncomputable def n49_29 : Code := kid n49_27 true
noncomputable def n49_30 : Code := kid n49_25 true
noncomputable def n49_31 : Code := kid n49_14 true
noncomputable def n49_32 : Code := kid n49_31 false
noncomputable def n49_33 : Code := kid n49_32 false
noncomputable def n49_34 : Code := kid n49_32 true
noncomputable def n49_35 : Code := kid n49_34 false
noncomputable def n49_36 : Code := kid n49_35 false
noncomputable def n49_37 : Code := kid n49_35 true
noncomputable def n49_38 : Code := kid n49_37 false
noncomputable def n49_39 : Code := kid n49_37 true
noncomputable def n49_40 : Code := kid n49_34 true
noncomputable def n49_41 : Code := kid n49_31 true
noncomputable def n49_42 : Code := kid n49_41 false
noncomputable def n49_43 : Code := kid n49_41 true
noncomputable def n49_44 : Code := kid n49_43 false
noncomputable def n49_45 : Code := kid n49_43 true
@[simp] theorem e49_0 (fr : Fr) (st : St) : runI cfg 49 n49_0 fr st = thenR cfg 49 n49_2 (runI cfg 49 n49_1 fr st) := run_seq (by kernel_rfl)
@[simp] theorem e49_1 (fr : Fr) (st : St) : runI cfg 49 n49_1 fr st = ob (lookF fr 0) fun x0 => ob (lookF fr 1) fun x1 => (some (.normal, [(0, x0), (1, x1)], st) : Res) :=
  (runI_reg (c := n49_1) (id := 0) (ops := opsOf n49_1) (draw := false) (by kernel_rfl)).trans (by kernel_rfl)
@[simp] theorem e49_2 (fr : Fr) (st : St) : runI cfg 49 n49_2 fr st = thenR cfg 49 n49_12 (runI cfg 49 n49_3 fr st) := run_seq (by kernel_rfl)
@[simp] theorem e49_3 (fr : Fr) (st : St) : runI cfg 49 n49_3 fr st = thenR cfg 49 n49_5 (runI cfg 49 n49_4 fr st) := run_seq (by kernel_rfl)
@[simp] theorem e49_4 (fr : Fr) (st : St) : runI cfg 49 n49_4 fr st = ob (lookF fr 0) fun x0 => ob (lookF fr 1) fun x1 => ob (nilV x0) fun x9 => ob (addrV 1 x9) fun x10 => ob (loadV 1 false st.H x10) fun x11 => gC x11 (none) ((some (.normal, [(0, x0), (1, x1), (19, tt)], st) : Res)) (ob (nilV x0) fun x14 => ob (addrV 0 x14) fun x15 => ob (loadV 1 false st.H x15) fun x16 => ob (lenV (.slice 5) st.H x16) fun x17 => ob (binV cfg.P (opAt n49_4 10) .lss 3 (.int .i64) x17 (.d (.int .i64 6))) fun x18 => (some (.normal, [(0, x0), (1, x1), (19, x18)], st) : Res)) :=
  (runI_reg (c := n49_4) (id := 1) (ops := opsOf n49_4) (draw := false) (by kernel_rfl)).trans (by kernel_rfl)
@[simp] theorem e49_5 (fr : Fr) (st : St) : runI cfg 49 n49_5 fr st = ob (lookF fr 19) fun v => gC v none (runI cfg 49 n49_6 fr st) (runI cfg 49 n49_11 fr st) := run_cond (x := .tmp 19) (by kernel_rfl)
@[simp] theorem e49_6 (fr : Fr) (st : St) : runI cfg 49 n49_6 fr st = thenR cfg 49 n49_8 (runI cfg 49 n49_7 fr st) := run_seq (by kernel_rfl)
@[simp] theorem e49_7 (fr : Fr) (st : St) : runI cfg 49 n49_7 fr st = ob (lookF fr 0) fun x0 => ob (callI cfg 81 [x0] st) fun r1 => (some (.normal, [], r1.2) : Res) :=
  (runI_reg (c := n49_7) (id := 2) (ops := opsOf n49_7) (draw := false) (by kernel_rfl)).trans (by kernel_rfl)
@[simp] theorem e49_8 (fr : Fr) (st : St) : runI cfg 49 n49_8 fr st = thenR cfg 49 n49_10 (runI cfg 49 n49_9 fr st) := run_seq (by kernel_rfl)
@[simp] theorem e49_9 (fr : Fr) (st : St) : runI cfg 49 n49_9 fr st = (some (.normal, [(4, (.d (.int .i64 0)))], st) : Res) :=
  (runI_reg (c := n49_9) (id := 3) (ops := opsOf n49_9) (draw := false) (by kernel_rfl)).trans (by kernel_rfl)
@[simp] theorem e49_10 (fr : Fr) (st : St) : runI cfg 49 n49_10 fr st = some (.ret, fr, st) := run_ret (by kernel_rfl)
@[simp] theorem e49_11 (fr : Fr) (st : St) : runI cfg 49 n49_11 fr st = some (.normal, fr, st) := run_skip (by kernel_rfl)
@[simp] theorem e49_12 (fr : Fr) (st : St) : runI cfg 49 n49_12 fr st = thenR cfg 49 n49_14 (runI cfg 49 n49_13 fr st) := run_seq (by kernel_rfl)
@[simp] theorem e49_13 (fr : Fr) (st : St) : runI cfg 49 n49_13 fr st = ob (lookF fr 0) fun x0 => ob (lookF fr 1) fun x1 => (some (.normal, [(0, x0), (1, x1), (5, (.d (.int .i64 0)))], st) : Res) :=
  (runI_reg (c := n49_13) (id := 4) (ops := opsOf n49_13) (draw := false) (by kernel_rfl)).trans (by kernel_rfl)
@[simp] theorem e49_14 (fr : Fr) (st : St) : runI cfg 49 n49_14 fr st = thenR cfg 49 n49_31 (runI cfg 49 n49_15 fr st) := run_seq (by kernel_rfl)
@[simp] theorem e49_15 (fr : Fr) (st : St) : runI cfg 49 n49_15 fr st = thenR cfg 49 n49_17 (runI cfg 49 n49_16 fr st) := run_seq (by kernel_rfl)
@[simp] theorem e49_16 (fr : Fr) (st : St) : runI cfg 49 n49_16 fr st = ob (lookF fr 0) fun x0 => ob (lookF fr 1) fun x1 => ob (lookF fr 5) fun x5 => ob (nilV x0) fun x23 => ob (addrV 0 x23) fun x24 => ob (loadV 1 false st.H x24) fun x25 => ob (sliceV (.slice 5) (some 1) x25 none (some (.d (.int .i64 6))) none) fun x26 => ob (lenV (.slice 5) st.H x26) fun x27 => (some (.normal, [(0, x0), (1, x1), (5, x5), (26, x26), (27, x27), (28, (.d (.int .i64 0)))], st) : Res) :=
  (runI_reg (c := n49_16) (id := 5) (ops := opsOf n49_16) (draw := false) (by kernel_rfl)).trans (by kernel_rfl)
@[simp] theorem e49_17 (fr : Fr) (st : St) : runI cfg 49 n49_17 fr st = blockI 0 (runI cfg 49 n49_18 fr st) := run_block (by kernel_rfl)
theorem l49_18 (fr : Fr) (st : St) : runI cfg 49 n49_18 fr st = loopR cfg 49 n49_18 st.H.length (runI cfg 49 n49_19 fr st) := run_loop (by kernel_rfl)
@[simp] theorem e49_19 (fr : Fr) (st : St) : runI cfg 49 n49_19 fr st = thenR cfg 49 n49_21 (runI cfg 49 n49_20 fr st) := run_seq (by kernel_rfl)
@[simp] theorem e49_20 (fr : Fr) (st : St) : runI cfg 49 n49_20 fr st = ob (lookF fr 0) fun x0 => ob (lookF fr 1) fun x1 => ob (lookF fr 5) fun x5 => ob (lookF fr 26) fun x26 => ob (lookF fr 27) fun x27 => ob (lookF fr 28) fun x28 => ob (binV cfg.P (opAt n49_20 0) .lss 3 (.int .i64) x28 x27) fun x29 => (some (.normal, [(0, x0), (1, x1), (5, x5), (26, x26), (27, x27), (28, x28), (29, x29)], st) : Res) :=
  (runI_reg (c := n49_20) (id := 6) (ops := opsOf n49_20) (draw := false) (by kernel_rfl)).trans (by kernel_rfl)
@[simp] theorem e49_21 (fr : Fr) (st : St) : runI cfg 49 n49_21 fr st = thenR cfg 49 n49_25 (runI cfg 49 n49_22 fr st) := run_seq (by kernel_rfl)
@[simp] theorem e49_22 (fr : Fr) (st : St) : runI cfg 49 n49_22 fr st = ob (lookF fr 29) fun v => gC v none (runI cfg 49 n49_23 fr st) (runI cfg 49 n49_24 fr st) := run_cond (x := .tmp 29) (by kernel_rfl)
@[simp] theorem e49_23 (fr : Fr) (st : St) : runI cfg 49 n49_23 fr st = some (.normal, fr, st) := run_skip (by kernel_rfl)
@[simp] theorem e49_24 (fr : Fr) (st : St) : runI cfg 49 n49_24 fr st = some (.exit 0, fr, st) := run_exit (by kernel_rfl)
@[simp] theorem e49_25 (fr : Fr) (st : St) : runI cfg 49 n49_25 fr st = thenR cfg 49 n49_30 (runI cfg 49 n49_26 fr st) := run_seq (by kernel_rfl)
@[simp] theorem e49_26 (fr : Fr) (st : St) : runI cfg 49 n49_26 fr st = blockI 1 (runI cfg 49 n49_27 fr st) := run_block (by kernel_rfl)
@[simp] theorem e49_27 (fr : Fr) (st : St) : runI cfg 49 n49_27 fr st = thenR cfg 49 n49_29 (runI cfg 49 n49_28 fr st) := run_seq (by kernel_rfl)
@[simp] theorem e49_28 (fr : Fr) (st : St) : runI cfg 49 n49_28 fr st = ob (lookF fr 0) fun x0 => ob (lookF fr 1) fun x1 => ob (lookF fr 5) fun x5 => ob (lookF fr 26) fun x26 => ob (lookF fr 27) fun x27 => ob (lookF fr 28) fun x28 => ob (ixV 1 x26 x28) fun x30 => ob (loadV 1 false st.H x30) fun x31 => (some (.normal, [(0, x0), (1, x1), (5, x5), (7, x31), (26, x26), (27, x27), (28, x28)], st) : Res) :=
  (runI_reg (c := n49_28) (id := 7) (ops := opsOf n49_28) (draw := false) (by kernel_rfl)).trans (by kernel_rfl)
@[simp] theorem e49_29 (fr : Fr) (st : St) : runI cfg 49 n49_29 fr st = ob (lookF fr 0) fun x0 => ob (lookF fr 1) fun x1 => ob (lookF fr 5) fun x5 => ob (lookF fr 7) fun x7 => ob (lookF fr 26) fun x26 => ob (lookF fr 27) fun x27 => ob (lookF fr 28) fun x28 => ob (binV cfg.P (opAt n49_29 1) .shl 3 (.int .i64) x5 (.d (.int .u64 8))) fun x33 => ob (convV cfg.P (opAt n49_29 3) false (some (.int .u8)) (some (.int .i64)) none none x7) fun x35 => ob (binV cfg.P (opAt n49_29 4) .or 3 (.int .i64) x33 x35) fun x36 => (some (.normal, [(0, x0), (1, x1), (5, x36), (26, x26), (27, x27), (28, x28)], st) : Res) :=
  (runI_reg (c := n49_29) (id := 8) (ops := opsOf n49_29) (draw := false) (by kernel_rfl)).trans (by kernel_rfl)
@[simp] theorem e49_30 (fr : Fr) (st : St) : runI cfg 49 n49_30 fr st = ob (lookF fr 0) fun x0 => ob (lookF fr 1) fun x1 => ob (lookF fr 5) fun x5 => ob (lookF fr 26) fun x26 => ob (lookF fr 27) fun x27 => ob (lookF fr 28) fun x28 => ob (binV cfg.P (opAt n49_30 0) .add 3 (.int .i64) x28 (.d (.int .i64 1))) fun x37 => (some (.normal, [(0, x0), (1, x1), (5, x5), (26, x26), (27, x27), (28, x37)], st) : Res) :=
  (runI_reg (c := n49_30) (id := 9) (ops := opsOf n49_30) (draw := false) (by kernel_rfl)).trans (by kernel_rfl)
@[simp] theorem e49_31 (fr : Fr) (st : St) : runI cfg 49 n49_31 fr st = thenR cfg 49 n49_41 (runI cfg 49 n49_32 fr st) := run_seq (by kernel_rfl)
@[simp] theorem e49_32 (fr : Fr) (st : St) : runI cfg 49 n49_32 fr st = thenR cfg 49 n49_34 (runI cfg 49 n49_33 fr st) := run_seq (by kernel_rfl)
@[simp] theorem e49_33 (fr : Fr) (st : St) : runI cfg 49 n49_33 fr st = ob (lookF fr 0) fun x0 => ob (lookF fr 1) fun x1 => ob (lookF fr 5) fun x5 => ob (binV cfg.P (opAt n49_33 2) .gtr 3 (.int .i64) x5 x1) fun x40 => (some (.normal, [(0, x0), (5, x5), (40, x40)], st) : Res) :=
  (runI_reg (c := n49_33) (id := 10) (ops := opsOf n49_33) (draw := false) (by kernel_rfl)).trans (by kernel_rfl)
@[simp] theorem e49_34 (fr : Fr) (st : St) : runI cfg 49 n49_34 fr st = ob (lookF fr 40) fun v => gC v none (runI cfg 49 n49_35 fr st) (runI cfg 49 n49_40 fr st) := run_cond (x := .tmp 40) (by kernel_rfl)
@[simp] theorem e49_35 (fr : Fr) (st : St) : runI cfg 49 n49_35 fr st = thenR cfg 49 n49_37 (runI cfg 49 n49_36 fr st) := run_seq (by kernel_rfl)
@[simp] theorem e49_36 (fr : Fr) (st : St) : runI cfg 49 n49_36 fr st = ob (lookF fr 0) fun x0 => ob (callI cfg 81 [x0] st) fun r1 => (some (.normal, [], r1.2) : Res) :=
  (runI_reg (c := n49_36) (id := 11) (ops := opsOf n49_36) (draw := false) (by kernel_rfl)).trans (by kernel_rfl)
@[simp] theorem e49_37 (fr : Fr) (st : St) : runI cfg 49 n49_37 fr st = thenR cfg 49 n49_39 (runI cfg 49 n49_38 fr st) := run_seq (by kernel_rfl)
@[simp] theorem e49_38 (fr : Fr) (st : St) : runI cfg 49 n49_38 fr st = (some (.normal, [(4, (.d (.int .i64 0)))], st) : Res) :=
  (runI_reg (c := n49_38) (id := 12) (ops := opsOf n49_38) (draw := false) (by kernel_rfl)).trans (by kernel_rfl)
@[simp] theorem e49_39 (fr : Fr) (st : St) : runI cfg 49 n49_39 fr st = some (.ret, fr, st) := run_ret (by kernel_rfl)
@[simp] theorem e49_40 (fr : Fr) (st : St) : runI cfg 49 n49_40 fr st = some (.normal, fr, st) := run_skip (by kernel_rfl)
@[simp] theorem e49_41 (fr : Fr) (st : St) : runI cfg 49 n49_41 fr st = thenR cfg 49 n49_43 (runI cfg 49 n49_42 fr st) := run_seq (by kernel_rfl)
@[simp] theorem e49_42 (fr : Fr) (st : St) : runI cfg 49 n49_42 fr st = ob (lookF fr 0) fun x0 => ob (lookF fr 5) fun x5 => ob (nilV x0) fun x45 => ob (addrV 0 x45) fun x46 => ob (loadV 1 false st.H x46) fun x47 => ob (sliceV (.slice 5) (some 1) x47 (some (.d (.int .i64 6))) none none) fun x48 => ob (nilV x0) fun x49 => ob (addrV 0 x49) fun x50 => ob (storeV 1 st.H x50 x48) fun h8 => (some (.normal, [(5, x5)], ⟨h8, st.E⟩) : Res) :=
  (runI_reg (c := n49_42) (id := 13) (ops := opsOf n49_42) (draw := false) (by kernel_rfl)).trans (by kernel_rfl)
@[simp] theorem e49_43 (fr : Fr) (st : St) : runI cfg 49 n49_43 fr st = thenR cfg 49 n49_45 (runI cfg 49 n49_44 fr st) := run_seq (by kernel_rfl)
@[simp] theorem e49_44 (fr : Fr) (st : St) : runI cfg 49 n49_44 fr st = ob (lookF fr 5) fun x5 => (some (.normal, [(4, x5)], st) : Res) :=
  (runI_reg (c := n49_44) (id := 14) (ops := opsOf n49_44) (draw := false) (by kernel_rfl)).trans (by kernel_rfl)
@[simp] theorem e49_45 (fr : Fr) (st : St) : runI cfg 49 n49_45 fr st = some (.ret, fr, st) := run_ret (by kernel_rfl)
@[simp] theorem z49 (fr : Fr) (st : St) : endR cfg Try.f49 (some (.ret, fr, st)) = ob (lookF fr 4) fun x0 => some (x0, st) := end_r.trans (by kernel_rfl)
@[simp] theorem w49 (fr : Fr) (st : St) : endR cfg Try.f49 (some (.normal, fr, st)) = ob (lookF fr 4) fun x0 => some (x0, st) := end_n.trans (by kernel_rfl)
theorem c49 (ts : List T) (st : St) : callI cfg 49 ts st = endR cfg Try.f49 (runI cfg 49 n49_0 (enumF 0 ts) st) := call_inl (by kernel_rfl) (by kernel_rfl) (by kernel_rfl) (by kernel_rfl)
/-! 50: (*fettle.code.Reader).End -/
noncomputable def n50_0 : Code := codeB Try.f50
noncomputable def n50_1 : Code := kid n50_0 false
noncomputable def n50_2 : Code := kid n50_0 true
noncomputable def n50_3 : Code := kid n50_2 false
noncomputable def n50_4 : Code := kid n50_2 true
@[simp] theorem e50_0 (fr : Fr) (st : St) : runI cfg 50 n50_0 fr st = thenR cfg 50 n50_2 (runI cfg 50 n50_1 fr st) := run_seq (by kernel_rfl)
@[simp] theorem e50_1 (fr : Fr) (st : St) : runI cfg 50 n50_1 fr st = ob (lookF fr 0) fun x0 => (some (.normal, [(0, x0)], st) : Res) :=
  (runI_reg (c := n50_1) (id := 0) (ops := opsOf n50_1) (draw := false) (by kernel_rfl)).trans (by kernel_rfl)
@[simp] theorem e50_2 (fr : Fr) (st : St) : runI cfg 50 n50_2 fr st = thenR cfg 50 n50_4 (runI cfg 50 n50_3 fr st) := run_seq (by kernel_rfl)
@[simp] theorem e50_3 (fr : Fr) (st : St) : runI cfg 50 n50_3 fr st = ob (lookF fr 0) fun x0 => ob (nilV x0) fun x4 => ob (addrV 1 x4) fun x5 => ob (loadV 1 false st.H x5) fun x6 => ob (notV cfg.P (opAt n50_3 4) .not x6) fun x7 => gC x7 (none) (ob (nilV x0) fun x10 => ob (addrV 0 x10) fun x11 => ob (loadV 1 false st.H x11) fun x12 => ob (lenV (.slice 5) st.H x12) fun x13 => ob (binV cfg.P (opAt n50_3 11) .eql 3 (.int .i64) x13 (.d (.int .i64 0))) fun x14 => (some (.normal, [(2, x14)], st) : Res)) ((some (.normal, [(2, ff)], st) : Res)) :=
  (runI_reg (c := n50_3) (id := 1) (ops := opsOf n50_3) (draw := false) (by kernel_rfl)).trans (by kernel_rfl)
@[simp] theorem e50_4 (fr : Fr) (st : St) : runI cfg 50 n50_4 fr st = some (.ret, fr, st) := run_ret (by kernel_rfl)
@[simp] theorem z50 (fr : Fr) (st : St) : endR cfg Try.f50 (some (.ret, fr, st)) = ob (lookF fr 2) fun x0 => some (x0, st) := end_r.trans (by kernel_rfl)
@[simp] theorem w50 (fr : Fr) (st : St) : endR cfg Try.f50 (some (.normal, fr, st)) = ob (lookF fr 2) fun x0 => some (x0, st) := end_n.trans (by kernel_rfl)
theorem c50 (ts : List T) (st : St) : callI cfg 50 ts st = endR cfg Try.f50 (runI cfg 50 n50_0 (enumF 0 ts) st) := call_inl (by kernel_rfl) (by kernel_rfl) (by kernel_rfl) (by kernel_rfl)
/-! 51: bytes.Equal -/
noncomputable def n51_0 : Code := codeB Try.f51
noncomputable def n51_1 : Code := kid n51_0 false
noncomputable def n51_2 : Code := kid n51_0 true
noncomputable def n51_3 : Code := kid n51_2 false
noncomputable def n51_4 : Code := kid n51_2 true
@[simp] theorem e51_0 (fr : Fr) (st : St) : runI cfg 51 n51_0 fr st = thenR cfg 51 n51_2 (runI cfg 51 n51_1 fr st) := run_seq (by kernel_rfl)
@[simp] theorem e51_1 (fr : Fr) (st : St) : runI cfg 51 n51_1 fr st = ob (lookF fr 0) fun x0 => ob (lookF fr 1) fun x1 => (some (.normal, [(0, x0), (1, x1)], st) : Res) :=
  (runI_reg (c := n51_1) (id := 0) (ops := opsOf n51_1) (draw := false) (by kernel_rfl)).trans (by kernel_rfl)
@[simp] theorem e51_2 (fr : Fr) (st : St) : runI cfg 51 n51_2 fr st = thenR cfg 51 n51_4 (runI cfg 51 n51_3 fr st) := run_seq (by kernel_rfl)
@[simp] theorem e51_3 (fr : Fr) (st : St) : runI cfg 51 n51_3 fr st = ob (lookF fr 0) fun x0 => ob (lookF fr 1) fun x1 => ob (convV cfg.P (opAt n51_3 1) false (some (.slice 5)) (some .string) (some (.int .u8)) none x0) fun x6 => ob (convV cfg.P (opAt n51_3 3) false (some (.slice 5)) (some .string) (some (.int .u8)) none x1) fun x8 => ob (binV cfg.P (opAt n51_3 4) .eql 9 .string x6 x8) fun x9 => (some (.normal, [(4, x9)], st) : Res) :=
  (runI_reg (c := n51_3) (id := 1) (ops := opsOf n51_3) (draw := false) (by kernel_rfl)).trans (by kernel_rfl)
@[simp] theorem e51_4 (fr : Fr) (st : St) : runI cfg 51 n51_4 fr st = some (.ret, fr, st) := run_ret (by kernel_rfl)
@[simp] theorem z51 (fr : Fr) (st : St) : endR cfg Try.f51 (some (.ret, fr, st)) = ob (lookF fr 4) fun x0 => some (x0, st) := end_r.trans (by kernel_rfl)
@[simp] theorem w51 (fr : Fr) (st : St) : endR cfg Try.f51 (some (.normal, fr, st)) = ob (lookF fr 4) fun x0 => some (x0, st) := end_n.trans (by kernel_rfl)
theorem c51 (ts : List T) (st : St) : callI cfg 51 ts st = ob (closeAll ts) fun ts => backR st (endR cfg Try.f51 (runI cfg 51 n51_0 (enumF 0 ts) ⟨[], []⟩)) := call_pure (by kernel_rfl) (by kernel_rfl) (by kernel_rfl) (by kernel_rfl)
/-! 52: fettle.acts.Run -/
noncomputable def n52_0 : Code := codeB Try.f52
noncomputable def n52_1 : Code := kid n52_0 false
noncomputable def n52_2 : Code := kid n52_0 true
noncomputable def n52_3 : Code := kid n52_2 false
noncomputable def n52_4 : Code := kid n52_3 false
noncomputable def n52_5 : Code := kid n52_3 true
noncomputable def n52_6 : Code := kid n52_5 false
noncomputable def n52_7 : Code := kid n52_6 false
noncomputable def n52_8 : Code := kid n52_6 true
noncomputable def n52_9 : Code := kid n52_5 true
noncomputable def n52_10 : Code := kid n52_2 true
noncomputable def n52_11 : Code := kid n52_10 false
noncomputable def n52_12 : Code := kid n52_10 true
noncomputable def n52_13 : Code := kid n52_12 false
noncomputable def n52_14 : Code := kid n52_13 false
noncomputable def n52_15 : Code := kid n52_13 true
noncomputable def n52_16 : Code := kid n52_15 false
noncomputable def n52_17 : Code := kid n52_16 false
noncomputable def n52_18 : Code := kid n52_17 false
noncomputable def n52_19 : Code := kid n52_17 true
noncomputable def n52_20 : Code := kid n52_19 false
noncomputable def n52_21 : Code := kid n52_20 false
noncomputable def n52_22 : Code := kid n52_20 true
noncomputable def n52_23 : Code := kid n52_19 true
noncomputable def n52_24 : Code := kid n52_23 false
noncomputable def n52_25 : Code := kid n52_24 false
noncomputable def n52_26 : Code := kid n52_25 false
noncomputable def n52_27 : Code := kid n52_25 true
noncomputable def n52_28 : Code := kid n52_27 false
noncomputable def n52_29 : Code := kid n52_27 true
noncomputable def n52_30 : Code := kid n52_29 false
noncomputable def n52_31 : Code := kid n52_30 false
noncomputable def n52_32 : Code := kid n52_30 true
noncomputable def n52_33 : Code := kid n52_32 false
noncomputable def n52_34 : Code := kid n52_33 false
noncomputable def n52_35 : Code := kid n52_33 true
noncomputable def n52_36 : Code := kid n52_32 true
noncomputable def n52_37 : Code := kid n52_29 true
noncomputable def n52_38 : Code := kid n52_23 true
noncomputable def n52_39 : Code := kid n52_12 true
noncomputable def n52_40 : Code := kid n52_39 false
noncomputable def n52_41 : Code := kid n52_39 true
@[simp] theorem e52_0 (fr : Fr) (st : St) : runI cfg 52 n52_0 fr st = thenR cfg 52 n52_2 (runI cfg 52 n52_1 fr st) := run_seq (by kernel_rfl)
@[simp] theorem e52_1 (fr : Fr) (st : St) : runI cfg 52 n52_1 fr st = ob (lookF fr 0) fun x0 => ob (lookF fr 1) fun x1 => (some (.normal, [(0, x0), (1, x1)], st) : Res) :=
  (runI_reg (c := n52_1) (id := 0) (ops := opsOf n52_1) (draw := false) (by kernel_rfl)).trans (by kernel_rfl)
@[simp] theorem e52_2 (fr : Fr) (st : St) : runI cfg 52 n52_2 fr st = thenR cfg 52 n52_10 (runI cfg 52 n52_3 fr st) := run_seq (by kernel_rfl)
@[simp] theorem e52_3 (fr : Fr) (st : St) : runI cfg 52 n52_3 fr st = thenR cfg 52 n52_5 (runI cfg 52 n52_4 fr st) := run_seq (by kernel_rfl)
@[simp] theorem e52_4 (fr : Fr) (st : St) : runI cfg 52 n52_4 fr st = ob (lookF fr 0) fun x0 => ob (lookF fr 1) fun x1 => ob (callI cfg 80 [x0] st) fun r1 => ob (notV cfg.P (opAt n52_4 2) .not r1.1) fun x13 => (some (.normal, [(0, x0), (1, x1), (13, x13)], r1.2) : Res) :=
  (runI_reg (c := n52_4) (id := 1) (ops := opsOf n52_4) (draw := false) (by kernel_rfl)).trans (by kernel_rfl)
@[simp] theorem e52_5 (fr : Fr) (st : St) : runI cfg 52 n52_5 fr st = ob (lookF fr 13) fun v => gC v none (runI cfg 52 n52_6 fr st) (runI cfg 52 n52_9 fr st) := run_cond (x := .tmp 13) (by kernel_rfl)
@[simp] theorem e52_6 (fr : Fr) (st : St) : runI cfg 52 n52_6 fr st = thenR cfg 52 n52_8 (runI cfg 52 n52_7 fr st) := run_seq (by kernel_rfl)
@[simp] theorem e52_7 (fr : Fr) (st : St) : runI cfg 52 n52_7 fr st = (some (.normal, [(4, nilS), (5, ff)], st) : Res) :=
  (runI_reg (c := n52_7) (id := 2) (ops := opsOf n52_7) (draw := false) (by kernel_rfl)).trans (by kernel_rfl)
@[simp] theorem e52_8 (fr : Fr) (st : St) : runI cfg 52 n52_8 fr st = some (.ret, fr, st) := run_ret (by kernel_rfl)
@[simp] theorem e52_9 (fr : Fr) (st : St) : runI cfg 52 n52_9 fr st = some (.normal, fr, st) := run_skip (by kernel_rfl)
@[simp] theorem e52_10 (fr : Fr) (st : St) : runI cfg 52 n52_10 fr st = thenR cfg 52 n52_12 (runI cfg 52 n52_11 fr st) := run_seq (by kernel_rfl)
@[simp] theorem e52_11 (fr : Fr) (st : St) : runI cfg 52 n52_11 fr st = ob (lookF fr 0) fun x0 => ob (lookF fr 1) fun x1 => (some (.normal, [(0, x0), (1, x1), (6, nilS)], st) : Res) :=
  (runI_reg (c := n52_11) (id := 3) (ops := opsOf n52_11) (draw := false) (by kernel_rfl)).trans (by kernel_rfl)
@[simp] theorem e52_12 (fr : Fr) (st : St) : runI cfg 52 n52_12 fr st = thenR cfg 52 n52_39 (runI cfg 52 n52_13 fr st) := run_seq (by kernel_rfl)
@[simp] theorem e52_13 (fr : Fr) (st : St) : runI cfg 52 n52_13 fr st = thenR cfg 52 n52_15 (runI cfg 52 n52_14 fr st) := run_seq (by kernel_rfl)
@[simp] theorem e52_14 (fr : Fr) (st : St) : runI cfg 52 n52_14 fr st = ob (lookF fr 0) fun x0 => ob (lookF fr 1) fun x1 => ob (lookF fr 6) fun x6 => ob (lenV (.slice 47) st.H x0) fun x15 => (some (.normal, [(1, x1), (6, x6), (14, x0), (15, x15), (16, (.d (.int .i64 0)))], st) : Res) :=
  (runI_reg (c := n52_14) (id := 4) (ops := opsOf n52_14) (draw := false) (by kernel_rfl)).trans (by kernel_rfl)
@[simp] theorem e52_15 (fr : Fr) (st : St) : runI cfg 52 n52_15 fr st = blockI 0 (runI cfg 52 n52_16 fr st) := run_block (by kernel_rfl)
theorem l52_16 (fr : Fr) (st : St) : runI cfg 52 n52_16 fr st = loopR cfg 52 n52_16 st.H.length (runI cfg 52 n52_17 fr st) := run_loop (by kernel_rfl)
@[simp] theorem e52_17 (fr : Fr) (st : St) : runI cfg 52 n52_17 fr st = thenR cfg 52 n52_19 (runI cfg 52 n52_18 fr st) := run_seq (by kernel_rfl)
@[simp] theorem e52_18 (fr : Fr) (st : St) : runI cfg 52 n52_18 fr st = ob (lookF fr 1) fun x1 => ob (lookF fr 6) fun x6 => ob (lookF fr 14) fun x14 => ob (lookF fr 15) fun x15 => ob (lookF fr 16) fun x16 => ob (binV cfg.P (opAt n52_18 0) .lss 3 (.int .i64) x16 x15) fun x17 => (some (.normal, [(1, x1), (6, x6), (14, x14), (15, x15), (16, x16), (17, x17)], st) : Res) :=
  (runI_reg (c := n52_18) (id := 5) (ops := opsOf n52_18) (draw := false) (by kernel_rfl)).trans (by kernel_rfl)
@[simp] theorem e52_19 (fr : Fr) (st : St) : runI cfg 52 n52_19 fr st = thenR cfg 52 n52_23 (runI cfg 52 n52_20 fr st) := run_seq (by kernel_rfl)
@[simp] theorem e52_20 (fr : Fr) (st : St) : runI cfg 52 n52_20 fr st = ob (lookF fr 17) fun v => gC v none (runI cfg 52 n52_21 fr st) (runI cfg 52 n52_22 fr st) := run_cond (x := .tmp 17) (by kernel_rfl)
@[simp] theorem e52_21 (fr : Fr) (st : St) : runI cfg 52 n52_21 fr st = some (.normal, fr, st) := run_skip (by kernel_rfl)
@[simp] theorem e52_22 (fr : Fr) (st : St) : runI cfg 52 n52_22 fr st = some (.exit 0, fr, st) := run_exit (by kernel_rfl)
@[simp] theorem e52_23 (fr : Fr) (st : St) : runI cfg 52 n52_23 fr st = thenR cfg 52 n52_38 (runI cfg 52 n52_24 fr st) := run_seq (by kernel_rfl)
@[simp] theorem e52_24 (fr : Fr) (st : St) : runI cfg 52 n52_24 fr st = blockI 1 (runI cfg 52 n52_25 fr st) := run_block (by kernel_rfl)
@[simp] theorem e52_25 (fr : Fr) (st : St) : runI cfg 52 n52_25 fr st = thenR cfg 52 n52_27 (runI cfg 52 n52_26 fr st) := run_seq (by kernel_rfl)
@[simp] theorem e52_26 (fr : Fr) (st : St) : runI cfg 52 n52_26 fr st = ob (lookF fr 1) fun x1 => ob (lookF fr 6) fun x6 => ob (lookF fr 14) fun x14 => ob (lookF fr 15) fun x15 => ob (lookF fr 16) fun x16 => ob (ixV 3 x14 x16) fun x18 => ob (loadV 3 true st.H x18) fun x19 => ob (storeV 3 (st.H ++ [.cells [(.d (.int .i64 0)), (.d (.int .i64 0)), (.d (.string ByteArray.empty))]]) (.ptr st.H.length 0) x19) fun h3 => (some (.normal, [(1, x1), (6, x6), (8, (.ptr st.H.length 0)), (14, x14), (15, x15), (16, x16)], ⟨h3, st.E⟩) : Res) :=
  (runI_reg (c := n52_26) (id := 6) (ops := opsOf n52_26) (draw := false) (by kernel_rfl)).trans (by kernel_rfl)
@[simp] theorem e52_27 (fr : Fr) (st : St) : runI cfg 52 n52_27 fr st = thenR cfg 52 n52_29 (runI cfg 52 n52_28 fr st) := run_seq (by kernel_rfl)
@[simp] theorem e52_28 (fr : Fr) (st : St) : runI cfg 52 n52_28 fr st = ob (lookF fr 1) fun x1 => ob (lookF fr 6) fun x6 => ob (lookF fr 8) fun x8 => ob (lookF fr 14) fun x14 => ob (lookF fr 15) fun x15 => ob (lookF fr 16) fun x16 => ob (loadV 3 true st.H x8) fun x21 => ob (callI cfg 82 [x21, x1, x6] st) fun r3 => ob (exV 0 r3.1) fun x25 => ob (exV 1 r3.1) fun x26 => (some (.normal, [(1, x1), (9, x25), (10, x26), (14, x14), (15, x15), (16, x16)], r3.2) : Res) :=
  (runI_reg (c := n52_28) (id := 7) (ops := opsOf n52_28) (draw := false) (by kernel_rfl)).trans (by kernel_rfl)
@[simp] theorem e52_29 (fr : Fr) (st : St) : runI cfg 52 n52_29 fr st = thenR cfg 52 n52_37 (runI cfg 52 n52_30 fr st) := run_seq (by kernel_rfl)
@[simp] theorem e52_30 (fr : Fr) (st : St) : runI cfg 52 n52_30 fr st = thenR cfg 52 n52_32 (runI cfg 52 n52_31 fr st) := run_seq (by kernel_rfl)
@[simp] theorem e52_31 (fr : Fr) (st : St) : runI cfg 52 n52_31 fr st = ob (lookF fr 1) fun x1 => ob (lookF fr 9) fun x9 => ob (lookF fr 10) fun x10 => ob (lookF fr 14) fun x14 => ob (lookF fr 15) fun x15 => ob (lookF fr 16) fun x16 => ob (notV cfg.P (opAt n52_31 1) .not x10) fun x28 => gC x28 (none) ((some (.normal, [(1, x1), (9, x9), (14, x14), (15, x15), (16, x16), (33, tt)], st) : Res)) (ob (lenV (.slice 5) st.H x9) fun x31 => ob (binV cfg.P (opAt n52_31 5) .gtr 3 (.int .i64) x31 (.d (.int .i64 256))) fun x32 => (some (.normal, [(1, x1), (9, x9), (14, x14), (15, x15), (16, x16), (33, x32)], st) : Res)) :=
  (runI_reg (c := n52_31) (id := 8) (ops := opsOf n52_31) (draw := false) (by kernel_rfl)).trans (by kernel_rfl)
@[simp] theorem e52_32 (fr : Fr) (st : St) : runI cfg 52 n52_32 fr st = ob (lookF fr 33) fun v => gC v none (runI cfg 52 n52_33 fr st) (runI cfg 52 n52_36 fr st) := run_cond (x := .tmp 33) (by kernel_rfl)
@[simp] theorem e52_33 (fr : Fr) (st : St) : runI cfg 52 n52_33 fr st = thenR cfg 52 n52_35 (runI cfg 52 n52_34 fr st) := run_seq (by kernel_rfl)
@[simp] theorem e52_34 (fr : Fr) (st : St) : runI cfg 52 n52_34 fr st = (some (.normal, [(4, nilS), (5, ff)], st) : Res) :=
  (runI_reg (c := n52_34) (id := 9) (ops := opsOf n52_34) (draw := false) (by kernel_rfl)).trans (by kernel_rfl)
@[simp] theorem e52_35 (fr : Fr) (st : St) : runI cfg 52 n52_35 fr st = some (.ret, fr, st) := run_ret (by kernel_rfl)
@[simp] theorem e52_36 (fr : Fr) (st : St) : runI cfg 52 n52_36 fr st = some (.normal, fr, st) := run_skip (by kernel_rfl)
@[simp] theorem e52_37 (fr : Fr) (st : St) : runI cfg 52 n52_37 fr st = ob (lookF fr 1) fun x1 => ob (lookF fr 9) fun x9 => ob (lookF fr 14) fun x14 => ob (lookF fr 15) fun x15 => ob (lookF fr 16) fun x16 => (some (.normal, [(1, x1), (6, x9), (14, x14), (15, x15), (16, x16)], st) : Res) :=
  (runI_reg (c := n52_37) (id := 10) (ops := opsOf n52_37) (draw := false) (by kernel_rfl)).trans (by kernel_rfl)
@[simp] theorem e52_38 (fr : Fr) (st : St) : runI cfg 52 n52_38 fr st = ob (lookF fr 1) fun x1 => ob (lookF fr 6) fun x6 => ob (lookF fr 14) fun x14 => ob (lookF fr 15) fun x15 => ob (lookF fr 16) fun x16 => ob (binV cfg.P (opAt n52_38 0) .add 3 (.int .i64) x16 (.d (.int .i64 1))) fun x35 => (some (.normal, [(1, x1), (6, x6), (14, x14), (15, x15), (16, x35)], st) : Res) :=
  (runI_reg (c := n52_38) (id := 11) (ops := opsOf n52_38) (draw := false) (by kernel_rfl)).trans (by kernel_rfl)
@[simp] theorem e52_39 (fr : Fr) (st : St) : runI cfg 52 n52_39 fr st = thenR cfg 52 n52_41 (runI cfg 52 n52_40 fr st) := run_seq (by kernel_rfl)
@[simp] theorem e52_40 (fr : Fr) (st : St) : runI cfg 52 n52_40 fr st = ob (lookF fr 6) fun x6 => ob (callI cfg 79 [x6] st) fun r1 => ob (callI cfg 78 [r1.1] r1.2) fun r2 => (some (.normal, [(4, r2.1), (5, tt)], r2.2) : Res) :=
  (runI_reg (c := n52_40) (id := 12) (ops := opsOf n52_40) (draw := false) (by kernel_rfl)).trans (by kernel_rfl)
@[simp] theorem e52_41 (fr : Fr) (st : St) : runI cfg 52 n52_41 fr st = some (.ret, fr, st) := run_ret (by kernel_rfl)
@[simp] theorem z52 (fr : Fr) (st : St) : endR cfg Try.f52 (some (.ret, fr, st)) = ob (lookF fr 4) fun x0 => ob (lookF fr 5) fun x1 => some (.tup [x0, x1], st) := end_r.trans (by kernel_rfl)
@[simp] theorem w52 (fr : Fr) (st : St) : endR cfg Try.f52 (some (.normal, fr, st)) = ob (lookF fr 4) fun x0 => ob (lookF fr 5) fun x1 => some (.tup [x0, x1], st) := end_n.trans (by kernel_rfl)
theorem c52 (ts : List T) (st : St) : callI cfg 52 ts st = ob (closeAll ts) fun ts => backR st (endR cfg Try.f52 (runI cfg 52 n52_0 (enumF 0 ts) ⟨[], []⟩)) := call_pure (by kernel_rfl) (by kernel_rfl) (by kernel_rfl) (by kernel_rfl)
end Go.Proofs.CfgA
end
section
set_option linter.unusedVariables false
set_option maxRecDepth 100000
namespace Go.Proofs.CfgA
open Go Go.Tm Go.Proofs

/-! 78: slices.Clip[[]byte,byte] -/
noncomputable def n78_0 : Code := codeB Try.f78
noncomputable def n78_1 : Code := kid n78_0 false
noncomputable def n78_2 : Code := kid n78_0 true
noncomputable def n78_3 : Code := kid n78_2 false
noncomputable def n78_4 : Code := kid n78_2 true
@[simp] theorem e78_0 (fr : Fr) (st : St) : runI cfg 78 n78_0 fr st = thenR cfg 78 n78_2 (runI cfg 78 n78_1 fr st) := run_seq (by kernel_rfl)
@[simp] theorem e78_1 (fr : Fr) (st : St) : runI cfg 78 n78_1 fr st = ob (lookF fr 0) fun x0 => (some (.normal, [(0, x0)], st) : Res) :=
  (runI_reg (c := n78_1) (id := 0) (ops := opsOf n78_1) (draw := false) (by kernel_rfl)).trans (by kernel_rfl)
@[simp] theorem e78_2 (fr : Fr) (st : St) : runI cfg 78 n78_2 fr st = thenR cfg 78 n78_4 (runI cfg 78 n78_3 fr st) := run_seq (by kernel_rfl)
@[simp] theorem e78_3 (fr : Fr) (st : St) : runI cfg 78 n78_3 fr st = ob (lookF fr 0) fun x0 => ob (lenV (.slice 5) st.H x0) fun x5 => ob (lenV (.slice 5) st.H x0) fun x7 => ob (sliceV (.slice 5) (some 1) x0 none (some x5) (some x7)) fun x8 => (some (.normal, [(2, x8)], st) : Res) :=
  (runI_reg (c := n78_3) (id := 1) (ops := opsOf n78_3) (draw := false) (by kernel_rfl)).trans (by kernel_rfl)
@[simp] theorem e78_4 (fr : Fr) (st : St) : runI cfg 78 n78_4 fr st = some (.ret, fr, st) := run_ret (by kernel_rfl)
@[simp] theorem z78 (fr : Fr) (st : St) : endR cfg Try.f78 (some (.ret, fr, st)) = ob (lookF fr 2) fun x0 => some (x0, st) := end_r.trans (by kernel_rfl)
@[simp] theorem w78 (fr : Fr) (st : St) : endR cfg Try.f78 (some (.normal, fr, st)) = ob (lookF fr 2) fun x0 => some (x0, st) := end_n.trans (by kernel_rfl)
theorem c78 (ts : List T) (st : St) : callI cfg 78 ts st = ob (closeAll ts) fun ts => backR st (endR cfg Try.f78 (runI cfg 78 n78_0 (enumF 0 ts) ⟨[], []⟩)) := call_pure (by kernel_rfl) (by kernel_rfl) (by kernel_rfl) (by kernel_rfl)
/-! 79: slices.Clone[[]byte,byte] -/
noncomputable def n79_0 : Code := codeB Try.f79
noncomputable def n79_1 : Code := kid n79_0 false
noncomputable def n79_2 : Code := kid n79_0 true
noncomputable def n79_3 : Code := kid n79_2 false
noncomputable def n79_4 : Code := kid n79_3 false
noncomputable def n79_5 : Code := kid n79_3 true
noncomputable def n79_6 : Code := kid n79_5 false
noncomputable def n79_7 : Code := kid n79_6 false
noncomputable def n79_8 : Code := kid n79_6 true
noncomputable def n79_9 : Code := kid n79_5 true
noncomputable def n79_10 : Code := kid n79_2 true
noncomputable def n79_11 : Code := kid n79_10 false
noncomputable def n79_12 : Code := kid n79_10 true
@[simp] theorem e79_0 (fr : Fr) (st : St) : runI cfg 79 n79_0 fr st = thenR cfg 79 n79_2 (runI cfg 79 n79_1 fr st) := run_seq (by kernel_rfl)
@[simp] theorem e79_1 (fr : Fr) (st : St) : runI cfg 79 n79_1 fr st = ob (lookF fr 0) fun x0 => (some (.normal, [(0, x0)], st) : Res) :=
  (runI_reg (c := n79_1) (id := 0) (ops := opsOf n79_1) (draw := false) (by kernel_rfl)).trans (by kernel_rfl)
@[simp] theorem e79_2 (fr : Fr) (st : St) : runI cfg 79 n79_2 fr st = thenR cfg 79 n79_10 (runI cfg 79 n79_3 fr st) := run_seq (by kernel_rfl)
@[simp] theorem e79_3 (fr : Fr) (st : St) : runI cfg 79 n79_3 fr st = thenR cfg 79 n79_5 (runI cfg 79 n79_4 fr st) := run_seq (by kernel_rfl)
@[simp] theorem e79_4 (fr : Fr) (st : St) : runI cfg 79 n79_4 fr st = ob (lookF fr 0) fun x0 => ob (binV cfg.P (opAt n79_4 1) .eql 31 (.slice 5) x0 nilS) fun x4 => (some (.normal, [(0, x0), (4, x4)], st) : Res) :=
  (runI_reg (c := n79_4) (id := 1) (ops := opsOf n79_4) (draw := false) (by kernel_rfl)).trans (by kernel_rfl)
@[simp] theorem e79_5 (fr : Fr) (st : St) : runI cfg 79 n79_5 fr st = ob (lookF fr 4) fun v => gC v none (runI cfg 79 n79_6 fr st) (runI cfg 79 n79_9 fr st) := run_cond (x := .tmp 4) (by kernel_rfl)
@[simp] theorem e79_6 (fr : Fr) (st : St) : runI cfg 79 n79_6 fr st = thenR cfg 79 n79_8 (runI cfg 79 n79_7 fr st) := run_seq (by kernel_rfl)
@[simp] theorem e79_7 (fr : Fr) (st : St) : runI cfg 79 n79_7 fr st = (some (.normal, [(2, nilS)], st) : Res) :=
  (runI_reg (c := n79_7) (id := 2) (ops := opsOf n79_7) (draw := false) (by kernel_rfl)).trans (by kernel_rfl)
@[simp] theorem e79_8 (fr : Fr) (st : St) : runI cfg 79 n79_8 fr st = some (.ret, fr, st) := run_ret (by kernel_rfl)
@[simp] theorem e79_9 (fr : Fr) (st : St) : runI cfg 79 n79_9 fr st = some (.normal, fr, st) := run_skip (by kernel_rfl)
@[simp] theorem e79_10 (fr : Fr) (st : St) : runI cfg 79 n79_10 fr st = thenR cfg 79 n79_12 (runI cfg 79 n79_11 fr st) := run_seq (by kernel_rfl)
@[simp] theorem e79_11 (fr : Fr) (st : St) : runI cfg 79 n79_11 fr st = ob (lookF fr 0) fun x0 => ob (fillA 1 (repeatL [(.d (.int .u8 0))] 0) []) fun c0 => ob (T.toDs c0) fun d0 => ob (appV 1 1 st (.sl false 0 d0 .lit) x0) fun a2 => (some (.normal, [(2, a2.1)], ⟨st.H, a2.2⟩) : Res) :=
  (runI_reg (c := n79_11) (id := 3) (ops := opsOf n79_11) (draw := false) (by kernel_rfl)).trans (by kernel_rfl)
@[simp] theorem e79_12 (fr : Fr) (st : St) : runI cfg 79 n79_12 fr st = some (.ret, fr, st) := run_ret (by kernel_rfl)
@[simp] theorem z79 (fr : Fr) (st : St) : endR cfg Try.f79 (some (.ret, fr, st)) = ob (lookF fr 2) fun x0 => some (x0, st) := end_r.trans (by kernel_rfl)
@[simp] theorem w79 (fr : Fr) (st : St) : endR cfg Try.f79 (some (.normal, fr, st)) = ob (lookF fr 2) fun x0 => some (x0, st) := end_n.trans (by kernel_rfl)
theorem c79 (ts : List T) (st : St) : callI cfg 79 ts st = ob (closeAll ts) fun ts => backR st (endR cfg Try.f79 (runI cfg 79 n79_0 (enumF 0 ts) ⟨[], []⟩)) := call_pure (by kernel_rfl) (by kernel_rfl) (by kernel_rfl) (by kernel_rfl)
/-! 80: fettle.acts.Ok -/
noncomputable def n80_0 : Code := codeB Try.f80
noncomputable def n80_1 : Code := kid n80_0 false
noncomputable def n80_2 : Code := kid n80_0 true
noncomputable def n80_3 : Code := kid n80_2 false
noncomputable def n80_4 : Code := kid n80_3 false
noncomputable def n80_5 : Code := kid n80_3 true
noncomputable def n80_6 : Code := kid n80_5 false
noncomputable def n80_7 : Code := kid n80_6 false
noncomputable def n80_8 : Code := kid n80_7 false
noncomputable def n80_9 : Code := kid n80_7 true
noncomputable def n80_10 : Code := kid n80_9 false
noncomputable def n80_11 : Code := kid n80_10 false
noncomputable def n80_12 : Code := kid n80_10 true
noncomputable def n80_13 : Code := kid n80_9 true
noncomputable def n80_14 : Code := kid n80_13 false
noncomputable def n80_15 : Code := kid n80_14 false
noncomputable def n80_16 : Code := kid n80_15 false
noncomputable def n80_17 : Code := kid n80_15 true
noncomputable def n80_18 : Code := kid n80_17 false
noncomputable def n80_19 : Code := kid n80_17 true
noncomputable def n80_20 : Code := kid n80_19 false
noncomputable def n80_21 : Code := kid n80_20 false
noncomputable def n80_22 : Code := kid n80_20 true
noncomputable def n80_23 : Code := kid n80_19 true
noncomputable def n80_24 : Code := kid n80_13 true
noncomputable def n80_25 : Code := kid n80_2 true
noncomputable def n80_26 : Code := kid n80_25 false
noncomputable def n80_27 : Code := kid n80_25 true
@[simp] theorem e80_0 (fr : Fr) (st : St) : runI cfg 80 n80_0 fr st = thenR cfg 80 n80_2 (runI cfg 80 n80_1 fr st) := run_seq (by kernel_rfl)
@[simp] theorem e80_1 (fr : Fr) (st : St) : runI cfg 80 n80_1 fr st = ob (lookF fr 0) fun x0 => (some (.normal, [(0, x0)], st) : Res) :=
  (runI_reg (c := n80_1) (id := 0) (ops := opsOf n80_1) (draw := false) (by kernel_rfl)).trans (by kernel_rfl)
@[simp] theorem e80_2 (fr : Fr) (st : St) : runI cfg 80 n80_2 fr st = thenR cfg 80 n80_25 (runI cfg 80 n80_3 fr st) := run_seq (by kernel_rfl)
@[simp] theorem e80_3 (fr : Fr) (st : St) : runI cfg 80 n80_3 fr st = thenR cfg 80 n80_5 (runI cfg 80 n80_4 fr st) := run_seq (by kernel_rfl)
@[simp] theorem e80_4 (fr : Fr) (st : St) : runI cfg 80 n80_4 fr st = ob (lookF fr 0) fun x0 => ob (lenV (.slice 47) st.H x0) fun x6 => (some (.normal, [(0, x0), (5, x0), (6, x6), (7, (.d (.int .i64 0)))], st) : Res) :=
  (runI_reg (c := n80_4) (id := 1) (ops := opsOf n80_4) (draw := false) (by kernel_rfl)).trans (by kernel_rfl)
@[simp] theorem e80_5 (fr : Fr) (st : St) : runI cfg 80 n80_5 fr st = blockI 0 (runI cfg 80 n80_6 fr st) := run_block (by kernel_rfl)
theorem l80_6 (fr : Fr) (st : St) : runI cfg 80 n80_6 fr st = loopR cfg 80 n80_6 st.H.length (runI cfg 80 n80_7 fr st) := run_loop (by kernel_rfl)
@[simp] theorem e80_7 (fr : Fr) (st : St) : runI cfg 80 n80_7 fr st = thenR cfg 80 n80_9 (runI cfg 80 n80_8 fr st) := run_seq (by kernel_rfl)
@[simp] theorem e80_8 (fr : Fr) (st : St) : runI cfg 80 n80_8 fr st = ob (lookF fr 0) fun x0 => ob (lookF fr 5) fun x5 => ob (lookF fr 6) fun x6 => ob (lookF fr 7) fun x7 => ob (binV cfg.P (opAt n80_8 0) .lss 3 (.int .i64) x7 x6) fun x8 => (some (.normal, [(0, x0), (5, x5), (6, x6), (7, x7), (8, x8)], st) : Res) :=
  (runI_reg (c := n80_8) (id := 2) (ops := opsOf n80_8) (draw := false) (by kernel_rfl)).trans (by kernel_rfl)
@[simp] theorem e80_9 (fr : Fr) (st : St) : runI cfg 80 n80_9 fr st = thenR cfg 80 n80_13 (runI cfg 80 n80_10 fr st) := run_seq (by kernel_rfl)
@[simp] theorem e80_10 (fr : Fr) (st : St) : runI cfg 80 n80_10 fr st = ob (lookF fr 8) fun v => gC v none (runI cfg 80 n80_11 fr st) (runI cfg 80 n80_12 fr st) := run_cond (x := .tmp 8) (by kernel_rfl)
@[simp] theorem e80_11 (fr : Fr) (st : St) : runI cfg 80 n80_11 fr st = some (.normal, fr, st) := run_skip (by kernel_rfl)
@[simp] theorem e80_12 (fr : Fr) (st : St) : runI cfg 80 n80_12 fr st = some (.exit 0, fr, st) := run_exit (by kernel_rfl)
@[simp] theorem e80_13 (fr : Fr) (st : St) : runI cfg 80 n80_13 fr st = thenR cfg 80 n80_24 (runI cfg 80 n80_14 fr st) := run_seq (by kernel_rfl)
@[simp] theorem e80_14 (fr : Fr) (st : St) : runI cfg 80 n80_14 fr st = blockI 1 (runI cfg 80 n80_15 fr st) := run_block (by kernel_rfl)
@[simp] theorem e80_15 (fr : Fr) (st : St) : runI cfg 80 n80_15 fr st = thenR cfg 80 n80_17 (runI cfg 80 n80_16 fr st) := run_seq (by kernel_rfl)
@[simp] theorem e80_16 (fr : Fr) (st : St) : runI cfg 80 n80_16 fr st = ob (lookF fr 0) fun x0 => ob (lookF fr 5) fun x5 => ob (lookF fr 6) fun x6 => ob (lookF fr 7) fun x7 => ob (ixV 3 x5 x7) fun x10 => ob (loadV 3 true st.H x10) fun x11 => ob (storeV 3 (st.H ++ [.cells [(.d (.int .i64 0)), (.d (.int .i64 0)), (.d (.string ByteArray.empty))]]) (.ptr st.H.length 0) x11) fun h5 => (some (.normal, [(0, x0), (3, x7), (4, (.ptr st.H.length 0)), (5, x5), (6, x6), (7, x7)], ⟨h5, st.E⟩) : Res) :=
  (runI_reg (c := n80_16) (id := 3) (ops := opsOf n80_16) (draw := false) (by kernel_rfl)).trans (by kernel_rfl)
@[simp] theorem e80_17 (fr : Fr) (st : St) : runI cfg 80 n80_17 fr st = thenR cfg 80 n80_19 (runI cfg 80 n80_18 fr st) := run_seq (by kernel_rfl)
@[simp] theorem e80_18 (fr : Fr) (st : St) : runI cfg 80 n80_18 fr st = ob (lookF fr 0) fun x0 => ob (lookF fr 3) fun x3 => ob (lookF fr 4) fun x4 => ob (lookF fr 5) fun x5 => ob (lookF fr 6) fun x6 => ob (lookF fr 7) fun x7 => ob (loadV 3 true st.H x4) fun x12 => ob (callI cfg 98 [x12] st) fun r1 => ob (notV cfg.P (opAt n80_18 2) .not r1.1) fun x14 => gC x14 (none) ((some (.normal, [(0, x0), (5, x5), (6, x6), (7, x7), (22, tt)], r1.2) : Res)) (ob (addrV 0 x4) fun x16 => ob (loadV 1 false r1.2.H x16) fun x17 => ob (callI cfg 99 [x17] r1.2) fun r6 => ob (binV cfg.P (opAt n80_18 8) .eql 3 (.int .i64) x3 (.d (.int .i64 0))) fun x20 => ob (binV cfg.P (opAt n80_18 9) .neq 4 .bool r6.1 x20) fun x21 => (some (.normal, [(0, x0), (5, x5), (6, x6), (7, x7), (22, x21)], r6.2) : Res)) :=
  (runI_reg (c := n80_18) (id := 4) (ops := opsOf n80_18) (draw := false) (by kernel_rfl)).trans (by kernel_rfl)
@[simp] theorem e80_19 (fr : Fr) (st : St) : runI cfg 80 n80_19 fr st = ob (lookF fr 22) fun v => gC v none (runI cfg 80 n80_20 fr st) (runI cfg 80 n80_23 fr st) := run_cond (x := .tmp 22) (by kernel_rfl)
@[simp] theorem e80_20 (fr : Fr) (st : St) : runI cfg 80 n80_20 fr st = thenR cfg 80 n80_22 (runI cfg 80 n80_21 fr st) := run_seq (by kernel_rfl)
@[simp] theorem e80_21 (fr : Fr) (st : St) : runI cfg 80 n80_21 fr st = (some (.normal, [(2, ff)], st) : Res) :=
  (runI_reg (c := n80_21) (id := 5) (ops := opsOf n80_21) (draw := false) (by kernel_rfl)).trans (by kernel_rfl)
@[simp] theorem e80_22 (fr : Fr) (st : St) : runI cfg 80 n80_22 fr st = some (.ret, fr, st) := run_ret (by kernel_rfl)
@[simp] theorem e80_23 (fr : Fr) (st : St) : runI cfg 80 n80_23 fr st = some (.normal, fr, st) := run_skip (by kernel_rfl)
@[simp] theorem e80_24 (fr : Fr) (st : St) : runI cfg 80 n80_24 fr st = ob (lookF fr 0) fun x0 => ob (lookF fr 5) fun x5 => ob (lookF fr 6) fun x6 => ob (lookF fr 7) fun x7 => ob (binV cfg.P (opAt n80_24 0) .add 3 (.int .i64) x7 (.d (.int .i64 1))) fun x23 => (some (.normal, [(0, x0), (5, x5), (6, x6), (7, x23)], st) : Res) :=
  (runI_reg (c := n80_24) (id := 6) (ops := opsOf n80_24) (draw := false) (by kernel_rfl)).trans (by kernel_rfl)
@[simp] theorem e80_25 (fr : Fr) (st : St) : runI cfg 80 n80_25 fr st = thenR cfg 80 n80_27 (runI cfg 80 n80_26 fr st) := run_seq (by kernel_rfl)
@[simp] theorem e80_26 (fr : Fr) (st : St) : runI cfg 80 n80_26 fr st = ob (lookF fr 0) fun x0 => ob (lenV (.slice 47) st.H x0) fun x25 => ob (binV cfg.P (opAt n80_26 2) .geq 3 (.int .i64) x25 (.d (.int .i64 1))) fun x26 => gC x26 (none) (ob (lenV (.slice 47) st.H x0) fun x29 => ob (binV cfg.P (opAt n80_26 6) .leq 3 (.int .i64) x29 (.d (.int .i64 8))) fun x30 => (some (.normal, [(2, x30)], st) : Res)) ((some (.normal, [(2, ff)], st) : Res)) :=
  (runI_reg (c := n80_26) (id := 7) (ops := opsOf n80_26) (draw := false) (by kernel_rfl)).trans (by kernel_rfl)
@[simp] theorem e80_27 (fr : Fr) (st : St) : runI cfg 80 n80_27 fr st = some (.ret, fr, st) := run_ret (by kernel_rfl)
@[simp] theorem z80 (fr : Fr) (st : St) : endR cfg Try.f80 (some (.ret, fr, st)) = ob (lookF fr 2) fun x0 => some (x0, st) := end_r.trans (by kernel_rfl)
@[simp] theorem w80 (fr : Fr) (st : St) : endR cfg Try.f80 (some (.normal, fr, st)) = ob (lookF fr 2) fun x0 => some (x0, st) := end_n.trans (by kernel_rfl)
theorem c80 (ts : List T) (st : St) : callI cfg 80 ts st = ob (closeAll ts) fun ts => backR st (endR cfg Try.f80 (runI cfg 80 n80_0 (enumF 0 ts) ⟨[], []⟩)) := call_pure (by kernel_rfl) (by kernel_rfl) (by kernel_rfl) (by kernel_rfl)
/-! 81: (*fettle.code.Reader).fail -/
noncomputable def n81_0 : Code := codeB Try.f81
@[simp] theorem e81_0 (fr : Fr) (st : St) : runI cfg 81 n81_0 fr st = ob (lookF fr 0) fun x0 => ob (nilV x0) fun x4 => ob (addrV 0 x4) fun x5 => ob (storeV 1 st.H x5 nilS) fun h4 => ob (nilV x0) fun x6 => ob (addrV 1 x6) fun x7 => ob (storeV 1 h4 x7 tt) fun h7 => (some (.normal, [], ⟨h7, st.E⟩) : Res) :=
  (runI_reg (c := n81_0) (id := 0) (ops := opsOf n81_0) (draw := false) (by kernel_rfl)).trans (by kernel_rfl)
@[simp] theorem z81 (fr : Fr) (st : St) : endR cfg Try.f81 (some (.ret, fr, st)) = some (.tup [], st) := end_r.trans (by kernel_rfl)
@[simp] theorem w81 (fr : Fr) (st : St) : endR cfg Try.f81 (some (.normal, fr, st)) = some (.tup [], st) := end_n.trans (by kernel_rfl)
theorem c81 (ts : List T) (st : St) : callI cfg 81 ts st = endR cfg Try.f81 (runI cfg 81 n81_0 (enumF 0 ts) st) := call_inl (by kernel_rfl) (by kernel_rfl) (by kernel_rfl) (by kernel_rfl)
/-! 82: fettle.acts.step -/
noncomputable def n82_0 : Code := codeB Try.f82
noncomputable def n82_1 : Code := kid n82_0 false
noncomputable def n82_2 : Code := kid n82_0 true
noncomputable def n82_3 : Code := kid n82_2 false
noncomputable def n82_4 : Code := kid n82_3 false
noncomputable def n82_5 : Code := kid n82_3 true
noncomputable def n82_6 : Code := kid n82_5 false
noncomputable def n82_7 : Code := kid n82_6 false
noncomputable def n82_8 : Code := kid n82_6 true
noncomputable def n82_9 : Code := kid n82_8 false
noncomputable def n82_10 : Code := kid n82_9 false
noncomputable def n82_11 : Code := kid n82_9 true
noncomputable def n82_12 : Code := kid n82_8 true
noncomputable def n82_13 : Code := kid n82_12 false
noncomputable def n82_14 : Code := kid n82_12 true
noncomputable def n82_15 : Code := kid n82_14 false
noncomputable def n82_16 : Code := kid n82_15 false
noncomputable def n82_17 : Code := kid n82_16 false
noncomputable def n82_18 : Code := kid n82_16 true
noncomputable def n82_19 : Code := kid n82_18 false
noncomputable def n82_20 : Code := kid n82_19 false
noncomputable def n82_21 : Code := kid n82_19 true
noncomputable def n82_22 : Code := kid n82_18 true
noncomputable def n82_23 : Code := kid n82_15 true
noncomputable def n82_24 : Code := kid n82_23 false
noncomputable def n82_25 : Code := kid n82_23 true
noncomputable def n82_26 : Code := kid n82_14 true
noncomputable def n82_27 : Code := kid n82_26 false
noncomputable def n82_28 : Code := kid n82_26 true
noncomputable def n82_29 : Code := kid n82_28 false
noncomputable def n82_30 : Code := kid n82_29 false
noncomputable def n82_31 : Code := kid n82_29 true
noncomputable def n82_32 : Code := kid n82_28 true
noncomputable def n82_33 : Code := kid n82_32 false
noncomputable def n82_34 : Code := kid n82_32 true
noncomputable def n82_35 : Code := kid n82_34 false
noncomputable def n82_36 : Code := kid n82_35 false
noncomputable def n82_37 : Code := kid n82_35 true
noncomputable def n82_38 : Code := kid n82_34 true
noncomputable def n82_39 : Code := kid n82_38 false
noncomputable def n82_40 : Code := kid n82_38 true
noncomputable def n82_41 : Code := kid n82_40 false
noncomputable def n82_42 : Code := kid n82_41 false
noncomputable def n82_43 : Code := kid n82_41 true
noncomputable def n82_44 : Code := kid n82_40 true
noncomputable def n82_45 : Code := kid n82_44 false
noncomputable def n82_46 : Code := kid n82_44 true
noncomputable def n82_47 : Code := kid n82_46 false
noncomputable def n82_48 : Code := kid n82_47 false
noncomputable def n82_49 : Code := kid n82_47 true
noncomputable def n82_50 : Code := kid n82_49 false
noncomputable def n82_51 : Code := kid n82_49 true
noncomputable def n82_52 : Code := kid n82_51 false
noncomputable def n82_53 : Code := kid n82_51 true
noncomputable def n82_54 : Code := kid n82_46 true
noncomputable def n82_55 : Code := kid n82_54 false
noncomputable def n82_56 : Code := kid n82_54 true
noncomputable def n82_57 : Code := kid n82_56 false
noncomputable def n82_58 : Code := kid n82_57 false
noncomputable def n82_59 : Code := kid n82_57 true
noncomputable def n82_60 : Code := kid n82_56 true
noncomputable def n82_61 : Code := kid n82_60 false
noncomputable def n82_62 : Code := kid n82_60 true
noncomputable def n82_63 : Code := kid n82_62 false
noncomputable def n82_64 : Code := kid n82_63 false
noncomputable def n82_65 : Code := kid n82_63 true
noncomputable def n82_66 : Code := kid n82_62 true
noncomputable def n82_67 : Code := kid n82_66 false
noncomputable def n82_68 : Code := kid n82_66 true
noncomputable def n82_69 : Code := kid n82_68 false
noncomputable def n82_70 : Code := kid n82_69 false
noncomputable def n82_71 : Code := kid n82_69 true
noncomputable def n82_72 : Code := kid n82_68 true
noncomputable def n82_73 : Code := kid n82_72 false
noncomputable def n82_74 : Code := kid n82_72 true
noncomputable def n82_75 : Code := kid n82_74 false
noncomputable def n82_76 : Code := kid n82_75 false
noncomputable def n82_77 : Code := kid n82_75 true
noncomputable def n82_78 : Code := kid n82_74 true
noncomputable def n82_79 : Code := kid n82_2 true
noncomputable def n82_80 : Code := kid n82_79 false
noncomputable def n82_81 : Code := kid n82_79 true
@[simp] theorem e82_0 (fr : Fr) (st : St) : runI cfg 82 n82_0 fr st = thenR cfg 82 n82_2 (runI cfg 82 n82_1 fr st) := run_seq (by kernel_rfl)
@[simp] theorem e82_1 (fr : Fr) (st : St) : runI cfg 82 n82_1 fr st = ob (lookF fr 0) fun x0 => ob (lookF fr 1) fun x1 => ob (lookF fr 2) fun x2 => gt ((T.cells x0).all T.one = true) ((some (.normal, [(1, x1), (2, x2), (3, (.ptr st.H.length 0))], ⟨(st.H ++ [.cells (T.cells x0)]), st.E⟩) : Res)) :=
  (runI_reg (c := n82_1) (id := 0) (ops := opsOf n82_1) (draw := false) (by kernel_rfl)).trans (by kernel_rfl)
@[simp] theorem e82_2 (fr : Fr) (st : St) : runI cfg 82 n82_2 fr st = thenR cfg 82 n82_79 (runI cfg 82 n82_3 fr st) := run_seq (by kernel_rfl)
@[simp] theorem e82_3 (fr : Fr) (st : St) : runI cfg 82 n82_3 fr st = thenR cfg 82 n82_5 (runI cfg 82 n82_4 fr st) := run_seq (by kernel_rfl)
@[simp] theorem e82_4 (fr : Fr) (st : St) : runI cfg 82 n82_4 fr st = ob (lookF fr 1) fun x1 => ob (lookF fr 2) fun x2 => ob (lookF fr 3) fun x3 => ob (addrV 0 x3) fun x9 => ob (loadV 1 false st.H x9) fun x10 => (some (.normal, [(1, x1), (2, x2), (3, x3), (10, x10)], st) : Res) :=
  (runI_reg (c := n82_4) (id := 1) (ops := opsOf n82_4) (draw := false) (by kernel_rfl)).trans (by kernel_rfl)
@[simp] theorem e82_5 (fr : Fr) (st : St) : runI cfg 82 n82_5 fr st = blockI 0 (runI cfg 82 n82_6 fr st) := run_block (by kernel_rfl)
@[simp] theorem e82_6 (fr : Fr) (st : St) : runI cfg 82 n82_6 fr st = thenR cfg 82 n82_8 (runI cfg 82 n82_7 fr st) := run_seq (by kernel_rfl)
@[simp] theorem e82_7 (fr : Fr) (st : St) : runI cfg 82 n82_7 fr st = ob (lookF fr 1) fun x1 => ob (lookF fr 2) fun x2 => ob (lookF fr 3) fun x3 => ob (lookF fr 10) fun x10 => ob (binV cfg.P (opAt n82_7 0) .eql 3 (.int .i64) x10 (.d (.int .i64 1))) fun x12 => (some (.normal, [(1, x1), (2, x2), (3, x3), (10, x10), (11, x12)], st) : Res) :=
  (runI_reg (c := n82_7) (id := 2) (ops := opsOf n82_7) (draw := false) (by kernel_rfl)).trans (by kernel_rfl)
@[simp] theorem e82_8 (fr : Fr) (st : St) : runI cfg 82 n82_8 fr st = ob (lookF fr 11) fun v => gC v none (runI cfg 82 n82_9 fr st) (runI cfg 82 n82_12 fr st) := run_cond (x := .tmp 11) (by kernel_rfl)
@[simp] theorem e82_9 (fr : Fr) (st : St) : runI cfg 82 n82_9 fr st = thenR cfg 82 n82_11 (runI cfg 82 n82_10 fr st) := run_seq (by kernel_rfl)
@[simp] theorem e82_10 (fr : Fr) (st : St) : runI cfg 82 n82_10 fr st = ob (lookF fr 3) fun x3 => ob (addrV 2 x3) fun x13 => ob (loadV 1 false st.H x13) fun x14 => ob (convV cfg.P (opAt n82_10 2) false (some .string) (some (.slice 5)) none (some (.int .u8)) x14) fun x15 => (some (.normal, [(6, x15), (7, tt)], st) : Res) :=
  (runI_reg (c := n82_10) (id := 3) (ops := opsOf n82_10) (draw := false) (by kernel_rfl)).trans (by kernel_rfl)
@[simp] theorem e82_11 (fr : Fr) (st : St) : runI cfg 82 n82_11 fr st = some (.ret, fr, st) := run_ret (by kernel_rfl)
@[simp] theorem e82_12 (fr : Fr) (st : St) : runI cfg 82 n82_12 fr st = thenR cfg 82 n82_14 (runI cfg 82 n82_13 fr st) := run_seq (by kernel_rfl)
@[simp] theorem e82_13 (fr : Fr) (st : St) : runI cfg 82 n82_13 fr st = ob (lookF fr 1) fun x1 => ob (lookF fr 2) fun x2 => ob (lookF fr 3) fun x3 => ob (lookF fr 10) fun x10 => ob (binV cfg.P (opAt n82_13 0) .eql 3 (.int .i64) x10 (.d (.int .i64 2))) fun x17 => (some (.normal, [(1, x1), (2, x2), (3, x3), (10, x10), (16, x17)], st) : Res) :=
  (runI_reg (c := n82_13) (id := 4) (ops := opsOf n82_13) (draw := false) (by kernel_rfl)).trans (by kernel_rfl)
@[simp] theorem e82_14 (fr : Fr) (st : St) : runI cfg 82 n82_14 fr st = ob (lookF fr 16) fun v => gC v none (runI cfg 82 n82_15 fr st) (runI cfg 82 n82_26 fr st) := run_cond (x := .tmp 16) (by kernel_rfl)
@[simp] theorem e82_15 (fr : Fr) (st : St) : runI cfg 82 n82_15 fr st = thenR cfg 82 n82_23 (runI cfg 82 n82_16 fr st) := run_seq (by kernel_rfl)
@[simp] theorem e82_16 (fr : Fr) (st : St) : runI cfg 82 n82_16 fr st = thenR cfg 82 n82_18 (runI cfg 82 n82_17 fr st) := run_seq (by kernel_rfl)
@[simp] theorem e82_17 (fr : Fr) (st : St) : runI cfg 82 n82_17 fr st = ob (lookF fr 1) fun x1 => ob (lookF fr 3) fun x3 => ob (addrV 1 x3) fun x18 => ob (loadV 1 false st.H x18) fun x19 => ob (lenV (.slice 31) st.H x1) fun x21 => ob (binV cfg.P (opAt n82_17 4) .geq 3 (.int .i64) x19 x21) fun x22 => (some (.normal, [(1, x1), (3, x3), (22, x22)], st) : Res) :=
  (runI_reg (c := n82_17) (id := 5) (ops := opsOf n82_17) (draw := false) (by kernel_rfl)).trans (by kernel_rfl)
@[simp] theorem e82_18 (fr : Fr) (st : St) : runI cfg 82 n82_18 fr st = ob (lookF fr 22) fun v => gC v none (runI cfg 82 n82_19 fr st) (runI cfg 82 n82_22 fr st) := run_cond (x := .tmp 22) (by kernel_rfl)
@[simp] theorem e82_19 (fr : Fr) (st : St) : runI cfg 82 n82_19 fr st = thenR cfg 82 n82_21 (runI cfg 82 n82_20 fr st) := run_seq (by kernel_rfl)
@[simp] theorem e82_20 (fr : Fr) (st : St) : runI cfg 82 n82_20 fr st = (some (.normal, [(6, nilS), (7, ff)], st) : Res) :=
  (runI_reg (c := n82_20) (id := 6) (ops := opsOf n82_20) (draw := false) (by kernel_rfl)).trans (by kernel_rfl)
@[simp] theorem e82_21 (fr : Fr) (st : St) : runI cfg 82 n82_21 fr st = some (.ret, fr, st) := run_ret (by kernel_rfl)
@[simp] theorem e82_22 (fr : Fr) (st : St) : runI cfg 82 n82_22 fr st = some (.normal, fr, st) := run_skip (by kernel_rfl)
@[simp] theorem e82_23 (fr : Fr) (st : St) : runI cfg 82 n82_23 fr st = thenR cfg 82 n82_25 (runI cfg 82 n82_24 fr st) := run_seq (by kernel_rfl)
@[simp] theorem e82_24 (fr : Fr) (st : St) : runI cfg 82 n82_24 fr st = ob (lookF fr 1) fun x1 => ob (lookF fr 3) fun x3 => ob (addrV 1 x3) fun x24 => ob (loadV 1 false st.H x24) fun x25 => ob (ixV 1 x1 x25) fun x26 => ob (loadV 1 false st.H x26) fun x27 => ob (callI cfg 79 [x27] st) fun r5 => (some (.normal, [(6, r5.1), (7, tt)], r5.2) : Res) :=
  (runI_reg (c := n82_24) (id := 7) (ops := opsOf n82_24) (draw := false) (by kernel_rfl)).trans (by kernel_rfl)
@[simp] theorem e82_25 (fr : Fr) (st : St) : runI cfg 82 n82_25 fr st = some (.ret, fr, st) := run_ret (by kernel_rfl)
@[simp] theorem e82_26 (fr : Fr) (st : St) : runI cfg 82 n82_26 fr st = thenR cfg 82 n82_28 (runI cfg 82 n82_27 fr st) := run_seq (by kernel_rfl)
@[simp] theorem e82_27 (fr : Fr) (st : St) : runI cfg 82 n82_27 fr st = ob (lookF fr 1) fun x1 => ob (lookF fr 2) fun x2 => ob (lookF fr 3) fun x3 => ob (lookF fr 10) fun x10 => ob (binV cfg.P (opAt n82_27 0) .eql 3 (.int .i64) x10 (.d (.int .i64 3))) fun x30 => (some (.normal, [(1, x1), (2, x2), (3, x3), (10, x10), (29, x30)], st) : Res) :=
  (runI_reg (c := n82_27) (id := 8) (ops := opsOf n82_27) (draw := false) (by kernel_rfl)).trans (by kernel_rfl)
@[simp] theorem e82_28 (fr : Fr) (st : St) : runI cfg 82 n82_28 fr st = ob (lookF fr 29) fun v => gC v none (runI cfg 82 n82_29 fr st) (runI cfg 82 n82_32 fr st) := run_cond (x := .tmp 29) (by kernel_rfl)
@[simp] theorem e82_29 (fr : Fr) (st : St) : runI cfg 82 n82_29 fr st = thenR cfg 82 n82_31 (runI cfg 82 n82_30 fr st) := run_seq (by kernel_rfl)
@[simp] theorem e82_30 (fr : Fr) (st : St) : runI cfg 82 n82_30 fr st = ob (lookF fr 1) fun x1 => ob (callI cfg 100 [x1, nilS] st) fun r1 => (some (.normal, [(6, r1.1), (7, tt)], r1.2) : Res) :=
  (runI_reg (c := n82_30) (id := 9) (ops := opsOf n82_30) (draw := false) (by kernel_rfl)).trans (by kernel_rfl)
@[simp] theorem e82_31 (fr : Fr) (st : St) : runI cfg 82 n82_31 fr st = some (.ret, fr, st) := run_ret (by kernel_rfl)
@[simp] theorem e82_32 (fr : Fr) (st : St) : runI cfg 82 n82_32 fr st = thenR cfg 82 n82_34 (runI cfg 82 n82_33 fr st) := run_seq (by kernel_rfl)
@[simp] theorem e82_33 (fr : Fr) (st : St) : runI cfg 82 n82_33 fr st = ob (lookF fr 2) fun x2 => ob (lookF fr 3) fun x3 => ob (lookF fr 10) fun x10 => ob (binV cfg.P (opAt n82_33 0) .eql 3 (.int .i64) x10 (.d (.int .i64 4))) fun x34 => (some (.normal, [(2, x2), (3, x3), (10, x10), (33, x34)], st) : Res) :=
  (runI_reg (c := n82_33) (id := 10) (ops := opsOf n82_33) (draw := false) (by kernel_rfl)).trans (by kernel_rfl)
@[simp] theorem e82_34 (fr : Fr) (st : St) : runI cfg 82 n82_34 fr st = ob (lookF fr 33) fun v => gC v none (runI cfg 82 n82_35 fr st) (runI cfg 82 n82_38 fr st) := run_cond (x := .tmp 33) (by kernel_rfl)
@[simp] theorem e82_35 (fr : Fr) (st : St) : runI cfg 82 n82_35 fr st = thenR cfg 82 n82_37 (runI cfg 82 n82_36 fr st) := run_seq (by kernel_rfl)
@[simp] theorem e82_36 (fr : Fr) (st : St) : runI cfg 82 n82_36 fr st = ob (lookF fr 2) fun x2 => ob (callI cfg 101 [x2, (.d (.int .u8 97)), (.d (.int .u8 122)), (.d (.int .i64 (-32)))] st) fun r1 => (some (.normal, [(6, r1.1), (7, tt)], r1.2) : Res) :=
  (runI_reg (c := n82_36) (id := 11) (ops := opsOf n82_36) (draw := false) (by kernel_rfl)).trans (by kernel_rfl)
@[simp] theorem e82_37 (fr : Fr) (st : St) : runI cfg 82 n82_37 fr st = some (.ret, fr, st) := run_ret (by kernel_rfl)
@[simp] theorem e82_38 (fr : Fr) (st : St) : runI cfg 82 n82_38 fr st = thenR cfg 82 n82_40 (runI cfg 82 n82_39 fr st) := run_seq (by kernel_rfl)
@[simp] theorem e82_39 (fr : Fr) (st : St) : runI cfg 82 n82_39 fr st = ob (lookF fr 2) fun x2 => ob (lookF fr 3) fun x3 => ob (lookF fr 10) fun x10 => ob (binV cfg.P (opAt n82_39 0) .eql 3 (.int .i64) x10 (.d (.int .i64 5))) fun x38 => (some (.normal, [(2, x2), (3, x3), (10, x10), (37, x38)], st) : Res) :=
  (runI_reg (c := n82_39) (id := 12) (ops := opsOf n82_39) (draw := false) (by kernel_rfl)).trans (by kernel_rfl)
@[simp] theorem e82_40 (fr : Fr) (st : St) : runI cfg 82 n82_40 fr st = ob (lookF fr 37) fun v => gC v none (runI cfg 82 n82_41 fr st) (runI cfg 82 n82_44 fr st) := run_cond (x := .tmp 37) (by kernel_rfl)
@[simp] theorem e82_41 (fr : Fr) (st : St) : runI cfg 82 n82_41 fr st = thenR cfg 82 n82_43 (runI cfg 82 n82_42 fr st) := run_seq (by kernel_rfl)
@[simp] theorem e82_42 (fr : Fr) (st : St) : runI cfg 82 n82_42 fr st = ob (lookF fr 2) fun x2 => ob (callI cfg 101 [x2, (.d (.int .u8 65)), (.d (.int .u8 90)), (.d (.int .i64 32))] st) fun r1 => (some (.normal, [(6, r1.1), (7, tt)], r1.2) : Res) :=
  (runI_reg (c := n82_42) (id := 13) (ops := opsOf n82_42) (draw := false) (by kernel_rfl)).trans (by kernel_rfl)
@[simp] theorem e82_43 (fr : Fr) (st : St) : runI cfg 82 n82_43 fr st = some (.ret, fr, st) := run_ret (by kernel_rfl)
@[simp] theorem e82_44 (fr : Fr) (st : St) : runI cfg 82 n82_44 fr st = thenR cfg 82 n82_46 (runI cfg 82 n82_45 fr st) := run_seq (by kernel_rfl)
@[simp] theorem e82_45 (fr : Fr) (st : St) : runI cfg 82 n82_45 fr st = ob (lookF fr 2) fun x2 => ob (lookF fr 3) fun x3 => ob (lookF fr 10) fun x10 => ob (binV cfg.P (opAt n82_45 0) .eql 3 (.int .i64) x10 (.d (.int .i64 6))) fun x42 => (some (.normal, [(2, x2), (3, x3), (10, x10), (41, x42)], st) : Res) :=
  (runI_reg (c := n82_45) (id := 14) (ops := opsOf n82_45) (draw := false) (by kernel_rfl)).trans (by kernel_rfl)
@[simp] theorem e82_46 (fr : Fr) (st : St) : runI cfg 82 n82_46 fr st = ob (lookF fr 41) fun v => gC v none (runI cfg 82 n82_47 fr st) (runI cfg 82 n82_54 fr st) := run_cond (x := .tmp 41) (by kernel_rfl)
@[simp] theorem e82_47 (fr : Fr) (st : St) : runI cfg 82 n82_47 fr st = thenR cfg 82 n82_49 (runI cfg 82 n82_48 fr st) := run_seq (by kernel_rfl)
@[simp] theorem e82_48 (fr : Fr) (st : St) : runI cfg 82 n82_48 fr st = ob (lookF fr 2) fun x2 => ob (callI cfg 79 [x2] st) fun r1 => (some (.normal, [(8, (twV (cfg.pure 79) st r1))], (twS (cfg.pure 79) st r1)) : Res) :=
  (runI_reg (c := n82_48) (id := 15) (ops := opsOf n82_48) (draw := false) (by kernel_rfl)).trans (by kernel_rfl)
@[simp] theorem e82_49 (fr : Fr) (st : St) : runI cfg 82 n82_49 fr st = thenR cfg 82 n82_51 (runI cfg 82 n82_50 fr st) := run_seq (by kernel_rfl)
@[simp] theorem e82_50 (fr : Fr) (st : St) : runI cfg 82 n82_50 fr st = ob (lookF fr 8) fun x8 => ob (callI cfg 102 [x8] st) fun r1 => (some (.normal, [(8, x8)], r1.2) : Res) :=
  (runI_reg (c := n82_50) (id := 16) (ops := opsOf n82_50) (draw := false) (by kernel_rfl)).trans (by kernel_rfl)
@[simp] theorem e82_51 (fr : Fr) (st : St) : runI cfg 82 n82_51 fr st = thenR cfg 82 n82_53 (runI cfg 82 n82_52 fr st) := run_seq (by kernel_rfl)
@[simp] theorem e82_52 (fr : Fr) (st : St) : runI cfg 82 n82_52 fr st = ob (lookF fr 8) fun x8 => (some (.normal, [(6, x8), (7, tt)], st) : Res) :=
  (runI_reg (c := n82_52) (id := 17) (ops := opsOf n82_52) (draw := false) (by kernel_rfl)).trans (by kernel_rfl)
@[simp] theorem e82_53 (fr : Fr) (st : St) : runI cfg 82 n82_53 fr st = some (.ret, fr, st) := run_ret (by kernel_rfl)
@[simp] theorem e82_54 (fr : Fr) (st : St) : runI cfg 82 n82_54 fr st = thenR cfg 82 n82_56 (runI cfg 82 n82_55 fr st) := run_seq (by kernel_rfl)
@[simp] theorem e82_55 (fr : Fr) (st : St) : runI cfg 82 n82_55 fr st = ob (lookF fr 2) fun x2 => ob (lookF fr 3) fun x3 => ob (lookF fr 10) fun x10 => ob (binV cfg.P (opAt n82_55 0) .eql 3 (.int .i64) x10 (.d (.int .i64 7))) fun x49 => (some (.normal, [(2, x2), (3, x3), (10, x10), (48, x49)], st) : Res) :=
  (runI_reg (c := n82_55) (id := 18) (ops := opsOf n82_55) (draw := false) (by kernel_rfl)).trans (by kernel_rfl)
@[simp] theorem e82_56 (fr : Fr) (st : St) : runI cfg 82 n82_56 fr st = ob (lookF fr 48) fun v => gC v none (runI cfg 82 n82_57 fr st) (runI cfg 82 n82_60 fr st) := run_cond (x := .tmp 48) (by kernel_rfl)
@[simp] theorem e82_57 (fr : Fr) (st : St) : runI cfg 82 n82_57 fr st = thenR cfg 82 n82_59 (runI cfg 82 n82_58 fr st) := run_seq (by kernel_rfl)
@[simp] theorem e82_58 (fr : Fr) (st : St) : runI cfg 82 n82_58 fr st = ob (lookF fr 2) fun x2 => ob (lookF fr 3) fun x3 => ob (addrV 1 x3) fun x51 => ob (loadV 1 false st.H x51) fun x52 => ob (lenV (.slice 5) st.H x2) fun x54 => ob (minmaxV false x52 x54) fun x55 => ob (sliceV (.slice 5) (some 1) x2 none (some x55) none) fun x56 => (some (.normal, [(6, x56), (7, tt)], st) : Res) :=
  (runI_reg (c := n82_58) (id := 19) (ops := opsOf n82_58) (draw := false) (by kernel_rfl)).trans (by kernel_rfl)
@[simp] theorem e82_59 (fr : Fr) (st : St) : runI cfg 82 n82_59 fr st = some (.ret, fr, st) := run_ret (by kernel_rfl)
@[simp] theorem e82_60 (fr : Fr) (st : St) : runI cfg 82 n82_60 fr st = thenR cfg 82 n82_62 (runI cfg 82 n82_61 fr st) := run_seq (by kernel_rfl)
@[simp] theorem e82_61 (fr : Fr) (st : St) : runI cfg 82 n82_61 fr st = ob (lookF fr 2) fun x2 => ob (lookF fr 3) fun x3 => ob (lookF fr 10) fun x10 => ob (binV cfg.P (opAt n82_61 0) .eql 3 (.int .i64) x10 (.d (.int .i64 8))) fun x58 => (some (.normal, [(2, x2), (3, x3), (10, x10), (57, x58)], st) : Res) :=
  (runI_reg (c := n82_61) (id := 20) (ops := opsOf n82_61) (draw := false) (by kernel_rfl)).trans (by kernel_rfl)
@[simp] theorem e82_62 (fr : Fr) (st : St) : runI cfg 82 n82_62 fr st = ob (lookF fr 57) fun v => gC v none (runI cfg 82 n82_63 fr st) (runI cfg 82 n82_66 fr st) := run_cond (x := .tmp 57) (by kernel_rfl)
@[simp] theorem e82_63 (fr : Fr) (st : St) : runI cfg 82 n82_63 fr st = thenR cfg 82 n82_65 (runI cfg 82 n82_64 fr st) := run_seq (by kernel_rfl)
@[simp] theorem e82_64 (fr : Fr) (st : St) : runI cfg 82 n82_64 fr st = ob (lookF fr 2) fun x2 => ob (lookF fr 3) fun x3 => ob (addrV 1 x3) fun x60 => ob (loadV 1 false st.H x60) fun x61 => ob (lenV (.slice 5) st.H x2) fun x63 => ob (minmaxV false x61 x63) fun x64 => ob (sliceV (.slice 5) (some 1) x2 (some x64) none none) fun x65 => (some (.normal, [(6, x65), (7, tt)], st) : Res) :=
  (runI_reg (c := n82_64) (id := 21) (ops := opsOf n82_64) (draw := false) (by kernel_rfl)).trans (by kernel_rfl)
@[simp] theorem e82_65 (fr : Fr) (st : St) : runI cfg 82 n82_65 fr st = some (.ret, fr, st) := run_ret (by kernel_rfl)
@[simp] theorem e82_66 (fr : Fr) (st : St) : runI cfg 82 n82_66 fr st = thenR cfg 82 n82_68 (runI cfg 82 n82_67 fr st) := run_seq (by kernel_rfl)
@[simp] theorem e82_67 (fr : Fr) (st : St) : runI cfg 82 n82_67 fr st = ob (lookF fr 2) fun x2 => ob (lookF fr 3) fun x3 => ob (lookF fr 10) fun x10 => ob (binV cfg.P (opAt n82_67 0) .eql 3 (.int .i64) x10 (.d (.int .i64 9))) fun x67 => (some (.normal, [(2, x2), (3, x3), (10, x10), (66, x67)], st) : Res) :=
  (runI_reg (c := n82_67) (id := 22) (ops := opsOf n82_67) (draw := false) (by kernel_rfl)).trans (by kernel_rfl)
@[simp] theorem e82_68 (fr : Fr) (st : St) : runI cfg 82 n82_68 fr st = ob (lookF fr 66) fun v => gC v none (runI cfg 82 n82_69 fr st) (runI cfg 82 n82_72 fr st) := run_cond (x := .tmp 66) (by kernel_rfl)
@[simp] theorem e82_69 (fr : Fr) (st : St) : runI cfg 82 n82_69 fr st = thenR cfg 82 n82_71 (runI cfg 82 n82_70 fr st) := run_seq (by kernel_rfl)
@[simp] theorem e82_70 (fr : Fr) (st : St) : runI cfg 82 n82_70 fr st = ob (lookF fr 2) fun x2 => ob (fillA 1 (repeatL [nilS] 2) [(0, x2), (1, x2)]) fun c2 => ob (T.toDs c2) fun d2 => ob (callI cfg 103 [(.sl false 2 d2 .lit)] st) fun r3 => (some (.normal, [(6, r3.1), (7, tt)], r3.2) : Res) :=
  (runI_reg (c := n82_70) (id := 23) (ops := opsOf n82_70) (draw := false) (by kernel_rfl)).trans (by kernel_rfl)
@[simp] theorem e82_71 (fr : Fr) (st : St) : runI cfg 82 n82_71 fr st = some (.ret, fr, st) := run_ret (by kernel_rfl)
@[simp] theorem e82_72 (fr : Fr) (st : St) : runI cfg 82 n82_72 fr st = thenR cfg 82 n82_74 (runI cfg 82 n82_73 fr st) := run_seq (by kernel_rfl)
@[simp] theorem e82_73 (fr : Fr) (st : St) : runI cfg 82 n82_73 fr st = ob (lookF fr 2) fun x2 => ob (lookF fr 3) fun x3 => ob (lookF fr 10) fun x10 => ob (binV cfg.P (opAt n82_73 0) .eql 3 (.int .i64) x10 (.d (.int .i64 10))) fun x73 => (some (.normal, [(2, x2), (3, x3), (72, x73)], st) : Res) :=
  (runI_reg (c := n82_73) (id := 24) (ops := opsOf n82_73) (draw := false) (by kernel_rfl)).trans (by kernel_rfl)
@[simp] theorem e82_74 (fr : Fr) (st : St) : runI cfg 82 n82_74 fr st = ob (lookF fr 72) fun v => gC v none (runI cfg 82 n82_75 fr st) (runI cfg 82 n82_78 fr st) := run_cond (x := .tmp 72) (by kernel_rfl)
@[simp] theorem e82_75 (fr : Fr) (st : St) : runI cfg 82 n82_75 fr st = thenR cfg 82 n82_77 (runI cfg 82 n82_76 fr st) := run_seq (by kernel_rfl)
@[simp] theorem e82_76 (fr : Fr) (st : St) : runI cfg 82 n82_76 fr st = ob (lookF fr 2) fun x2 => ob (lookF fr 3) fun x3 => ob (addrV 2 x3) fun x75 => ob (loadV 1 false st.H x75) fun x76 => ob (callI cfg 104 [x2, x76] st) fun r3 => (some (.normal, [(6, r3.1), (7, tt)], r3.2) : Res) :=
  (runI_reg (c := n82_76) (id := 25) (ops := opsOf n82_76) (draw := false) (by kernel_rfl)).trans (by kernel_rfl)
@[simp] theorem e82_77 (fr : Fr) (st : St) : runI cfg 82 n82_77 fr st = some (.ret, fr, st) := run_ret (by kernel_rfl)
@[simp] theorem e82_78 (fr : Fr) (st : St) : runI cfg 82 n82_78 fr st = some (.normal, fr, st) := run_skip (by kernel_rfl)
@[simp] theorem e82_79 (fr : Fr) (st : St) : runI cfg 82 n82_79 fr st = thenR cfg 82 n82_81 (runI cfg 82 n82_80 fr st) := run_seq (by kernel_rfl)
@[simp] theorem e82_80 (fr : Fr) (st : St) : runI cfg 82 n82_80 fr st = (some (.normal, [(6, nilS), (7, ff)], st) : Res) :=
  (runI_reg (c := n82_80) (id := 26) (ops := opsOf n82_80) (draw := false) (by kernel_rfl)).trans (by kernel_rfl)
@[simp] theorem e82_81 (fr : Fr) (st : St) : runI cfg 82 n82_81 fr st = some (.ret, fr, st) := run_ret (by kernel_rfl)
@[simp] theorem z82 (fr : Fr) (st : St) : endR cfg Try.f82 (some (.ret, fr, st)) = ob (lookF fr 6) fun x0 => ob (lookF fr 7) fun x1 => some (.tup [x0, x1], st) := end_r.trans (by kernel_rfl)
@[simp] theorem w82 (fr : Fr) (st : St) : endR cfg Try.f82 (some (.normal, fr, st)) = ob (lookF fr 6) fun x0 => ob (lookF fr 7) fun x1 => some (.tup [x0, x1], st) := end_n.trans (by kernel_rfl)
theorem c82 (ts : List T) (st : St) : callI cfg 82 ts st = ob (closeAll ts) fun ts => backR st (endR cfg Try.f82 (runI cfg 82 n82_0 (enumF 0 ts) ⟨[], []⟩)) := call_pure (by kernel_rfl) (by kernel_rfl) (by kernel_rfl) (by kernel_rfl)
/-! 98: fettle.acts.right -/
noncomputable def n98_0 : Code := codeB Try.f98
noncomputable def n98_1 : Code := kid n98_0 false
noncomputable def n98_2 : Code := kid n98_0 true
noncomputable def n98_3 : Code := kid n98_2 false
noncomputable def n98_4 : Code := kid n98_3 false
noncomputable def n98_5 : Code := kid n98_4 false
noncomputable def n98_6 : Code := kid n98_4 true
noncomputable def n98_7 : Code := kid n98_6 false
noncomputable def n98_8 : Code := kid n98_7 false
noncomputable def n98_9 : Code := kid n98_7 true
noncomputable def n98_10 : Code := kid n98_6 true
noncomputable def n98_11 : Code := kid n98_10 false
noncomputable def n98_12 : Code := kid n98_10 true
noncomputable def n98_13 : Code := kid n98_12 false
noncomputable def n98_14 : Code := kid n98_13 false
noncomputable def n98_15 : Code := kid n98_13 true
noncomputable def n98_16 : Code := kid n98_12 true
noncomputable def n98_17 : Code := kid n98_2 true
noncomputable def n98_18 : Code := kid n98_17 false
noncomputable def n98_19 : Code := kid n98_17 true
@[simp] theorem e98_0 (fr : Fr) (st : St) : runI cfg 98 n98_0 fr st = thenR cfg 98 n98_2 (runI cfg 98 n98_1 fr st) := run_seq (by kernel_rfl)
@[simp] theorem e98_1 (fr : Fr) (st : St) : runI cfg 98 n98_1 fr st = ob (lookF fr 0) fun x0 => gt ((T.cells x0).all T.one = true) ((some (.normal, [(1, (.ptr st.H.length 0))], ⟨(st.H ++ [.cells (T.cells x0)]), st.E⟩) : Res)) :=
  (runI_reg (c := n98_1) (id := 0) (ops := opsOf n98_1) (draw := false) (by kernel_rfl)).trans (by kernel_rfl)
@[simp] theorem e98_2 (fr : Fr) (st : St) : runI cfg 98 n98_2 fr st = thenR cfg 98 n98_17 (runI cfg 98 n98_3 fr st) := run_seq (by kernel_rfl)
@[simp] theorem e98_3 (fr : Fr) (st : St) : runI cfg 98 n98_3 fr st = blockI 0 (runI cfg 98 n98_4 fr st) := run_block (by kernel_rfl)
@[simp] theorem e98_4 (fr : Fr) (st : St) : runI cfg 98 n98_4 fr st = thenR cfg 98 n98_6 (runI cfg 98 n98_5 fr st) := run_seq (by kernel_rfl)
@[simp] theorem e98_5 (fr : Fr) (st : St) : runI cfg 98 n98_5 fr st = ob (lookF fr 1) fun x1 => ob (addrV 0 x1) fun x4 => ob (loadV 1 false st.H x4) fun x5 => ob (binV cfg.P (opAt n98_5 2) .lss 3 (.int .i64) x5 (.d (.int .i64 1))) fun x6 => gC x6 (none) ((some (.normal, [(1, x1), (3, tt)], st) : Res)) (ob (addrV 0 x1) fun x8 => ob (loadV 1 false st.H x8) fun x9 => ob (binV cfg.P (opAt n98_5 6) .gtr 3 (.int .i64) x9 (.d (.int .i64 11))) fun x10 => (some (.normal, [(1, x1), (3, x10)], st) : Res)) :=
  (runI_reg (c := n98_5) (id := 1) (ops := opsOf n98_5) (draw := false) (by kernel_rfl)).trans (by kernel_rfl)
@[simp] theorem e98_6 (fr : Fr) (st : St) : runI cfg 98 n98_6 fr st = ob (lookF fr 3) fun v => gC v none (runI cfg 98 n98_7 fr st) (runI cfg 98 n98_10 fr st) := run_cond (x := .tmp 3) (by kernel_rfl)
@[simp] theorem e98_7 (fr : Fr) (st : St) : runI cfg 98 n98_7 fr st = thenR cfg 98 n98_9 (runI cfg 98 n98_8 fr st) := run_seq (by kernel_rfl)
@[simp] theorem e98_8 (fr : Fr) (st : St) : runI cfg 98 n98_8 fr st = (some (.normal, [(2, ff)], st) : Res) :=
  (runI_reg (c := n98_8) (id := 2) (ops := opsOf n98_8) (draw := false) (by kernel_rfl)).trans (by kernel_rfl)
@[simp] theorem e98_9 (fr : Fr) (st : St) : runI cfg 98 n98_9 fr st = some (.ret, fr, st) := run_ret (by kernel_rfl)
@[simp] theorem e98_10 (fr : Fr) (st : St) : runI cfg 98 n98_10 fr st = thenR cfg 98 n98_12 (runI cfg 98 n98_11 fr st) := run_seq (by kernel_rfl)
@[simp] theorem e98_11 (fr : Fr) (st : St) : runI cfg 98 n98_11 fr st = ob (lookF fr 1) fun x1 => ob (addrV 0 x1) fun x13 => ob (loadV 1 false st.H x13) fun x14 => ob (callI cfg 108 [x14] st) fun r2 => (some (.normal, [(1, x1), (12, r2.1)], r2.2) : Res) :=
  (runI_reg (c := n98_11) (id := 3) (ops := opsOf n98_11) (draw := false) (by kernel_rfl)).trans (by kernel_rfl)
@[simp] theorem e98_12 (fr : Fr) (st : St) : runI cfg 98 n98_12 fr st = ob (lookF fr 12) fun v => gC v none (runI cfg 98 n98_13 fr st) (runI cfg 98 n98_16 fr st) := run_cond (x := .tmp 12) (by kernel_rfl)
@[simp] theorem e98_13 (fr : Fr) (st : St) : runI cfg 98 n98_13 fr st = thenR cfg 98 n98_15 (runI cfg 98 n98_14 fr st) := run_seq (by kernel_rfl)
@[simp] theorem e98_14 (fr : Fr) (st : St) : runI cfg 98 n98_14 fr st = ob (lookF fr 1) fun x1 => ob (addrV 1 x1) fun x16 => ob (loadV 1 false st.H x16) fun x17 => ob (binV cfg.P (opAt n98_14 2) .eql 3 (.int .i64) x17 (.d (.int .i64 0))) fun x18 => gC x18 (none) (ob (addrV 2 x1) fun x20 => ob (loadV 1 false st.H x20) fun x21 => ob (callI cfg 109 [x21] st) fun r6 => (some (.normal, [(2, r6.1)], r6.2) : Res)) ((some (.normal, [(2, ff)], st) : Res)) :=
  (runI_reg (c := n98_14) (id := 4) (ops := opsOf n98_14) (draw := false) (by kernel_rfl)).trans (by kernel_rfl)
@[simp] theorem e98_15 (fr : Fr) (st : St) : runI cfg 98 n98_15 fr st = some (.ret, fr, st) := run_ret (by kernel_rfl)
@[simp] theorem e98_16 (fr : Fr) (st : St) : runI cfg 98 n98_16 fr st = some (.normal, fr, st) := run_skip (by kernel_rfl)
@[simp] theorem e98_17 (fr : Fr) (st : St) : runI cfg 98 n98_17 fr st = thenR cfg 98 n98_19 (runI cfg 98 n98_18 fr st) := run_seq (by kernel_rfl)
@[simp] theorem e98_18 (fr : Fr) (st : St) : runI cfg 98 n98_18 fr st = ob (lookF fr 1) fun x1 => ob (addrV 2 x1) fun x24 => ob (loadV 1 false st.H x24) fun x25 => ob (binV cfg.P (opAt n98_18 2) .eql 9 .string x25 (.d (.string ByteArray.empty))) fun x26 => gC x26 (none) (ob (addrV 1 x1) fun x28 => ob (loadV 1 false st.H x28) fun x29 => ob (binV cfg.P (opAt n98_18 6) .geq 3 (.int .i64) x29 (.d (.int .i64 0))) fun x30 => gC x30 (none) (ob (addrV 1 x1) fun x33 => ob (loadV 1 false st.H x33) fun x34 => ob (addrV 0 x1) fun x35 => ob (loadV 1 false st.H x35) fun x36 => ob (callI cfg 110 [x36] st) fun r13 => ob (minmaxV true r13.1 (.d (.int .i64 0))) fun x38 => ob (binV cfg.P (opAt n98_18 15) .leq 3 (.int .i64) x34 x38) fun x39 => (some (.normal, [(2, x39)], r13.2) : Res)) ((some (.normal, [(2, ff)], st) : Res))) ((some (.normal, [(2, ff)], st) : Res)) :=
  (runI_reg (c := n98_18) (id := 5) (ops := opsOf n98_18) (draw := true) (by kernel_rfl)).trans (by kernel_rfl)
@[simp] theorem e98_19 (fr : Fr) (st : St) : runI cfg 98 n98_19 fr st = some (.ret, fr, st) := run_ret (by kernel_rfl)
@[simp] theorem z98 (fr : Fr) (st : St) : endR cfg Try.f98 (some (.ret, fr, st)) = ob (lookF fr 2) fun x0 => some (x0, st) := end_r.trans (by kernel_rfl)
@[simp] theorem w98 (fr : Fr) (st : St) : endR cfg Try.f98 (some (.normal, fr, st)) = ob (lookF fr 2) fun x0 => some (x0, st) := end_n.trans (by kernel_rfl)
theorem c98 (ts : List T) (st : St) : callI cfg 98 ts st = ob (closeAll ts) fun ts => backR st (endR cfg Try.f98 (runI cfg 98 n98_0 (enumF 0 ts) ⟨[], []⟩)) := call_pure (by kernel_rfl) (by kernel_rfl) (by kernel_rfl) (by kernel_rfl)
/-! 99: fettle.acts.begins -/
noncomputable def n99_0 : Code := codeB Try.f99
noncomputable def n99_1 : Code := kid n99_0 false
noncomputable def n99_2 : Code := kid n99_0 true
noncomputable def n99_3 : Code := kid n99_2 false
noncomputable def n99_4 : Code := kid n99_2 true
@[simp] theorem e99_0 (fr : Fr) (st : St) : runI cfg 99 n99_0 fr st = thenR cfg 99 n99_2 (runI cfg 99 n99_1 fr st) := run_seq (by kernel_rfl)
@[simp] theorem e99_1 (fr : Fr) (st : St) : runI cfg 99 n99_1 fr st = ob (lookF fr 0) fun x0 => (some (.normal, [(0, x0)], st) : Res) :=
  (runI_reg (c := n99_1) (id := 0) (ops := opsOf n99_1) (draw := false) (by kernel_rfl)).trans (by kernel_rfl)
@[simp] theorem e99_2 (fr : Fr) (st : St) : runI cfg 99 n99_2 fr st = thenR cfg 99 n99_4 (runI cfg 99 n99_3 fr st) := run_seq (by kernel_rfl)
@[simp] theorem e99_3 (fr : Fr) (st : St) : runI cfg 99 n99_3 fr st = ob (lookF fr 0) fun x0 => ob (binV cfg.P (opAt n99_3 1) .eql 3 (.int .i64) x0 (.d (.int .i64 1))) fun x4 => gC x4 (none) ((some (.normal, [(2, tt)], st) : Res)) (ob (binV cfg.P (opAt n99_3 4) .eql 3 (.int .i64) x0 (.d (.int .i64 2))) fun x7 => gC x7 (none) ((some (.normal, [(2, tt)], st) : Res)) (ob (binV cfg.P (opAt n99_3 8) .eql 3 (.int .i64) x0 (.d (.int .i64 3))) fun x11 => (some (.normal, [(2, x11)], st) : Res))) :=
  (runI_reg (c := n99_3) (id := 1) (ops := opsOf n99_3) (draw := false) (by kernel_rfl)).trans (by kernel_rfl)
@[simp] theorem e99_4 (fr : Fr) (st : St) : runI cfg 99 n99_4 fr st = some (.ret, fr, st) := run_ret (by kernel_rfl)
@[simp] theorem z99 (fr : Fr) (st : St) : endR cfg Try.f99 (some (.ret, fr, st)) = ob (lookF fr 2) fun x0 => some (x0, st) := end_r.trans (by kernel_rfl)
@[simp] theorem w99 (fr : Fr) (st : St) : endR cfg Try.f99 (some (.normal, fr, st)) = ob (lookF fr 2) fun x0 => some (x0, st) := end_n.trans (by kernel_rfl)
theorem c99 (ts : List T) (st : St) : callI cfg 99 ts st = ob (closeAll ts) fun ts => backR st (endR cfg Try.f99 (runI cfg 99 n99_0 (enumF 0 ts) ⟨[], []⟩)) := call_pure (by kernel_rfl) (by kernel_rfl) (by kernel_rfl) (by kernel_rfl)
/-! 101: fettle.acts.turned -/
noncomputable def n101_0 : Code := codeB Try.f101
noncomputable def n101_1 : Code := kid n101_0 false
noncomputable def n101_2 : Code := kid n101_0 true
noncomputable def n101_3 : Code := kid n101_2 false
noncomputable def n101_4 : Code := kid n101_2 true
noncomputable def n101_5 : Code := kid n101_4 false
noncomputable def n101_6 : Code := kid n101_5 false
noncomputable def n101_7 : Code := kid n101_5 true
noncomputable def n101_8 : Code := kid n101_7 false
noncomputable def n101_9 : Code := kid n101_8 false
noncomputable def n101_10 : Code := kid n101_9 false
noncomputable def n101_11 : Code := kid n101_9 true
noncomputable def n101_12 : Code := kid n101_11 false
noncomputable def n101_13 : Code := kid n101_12 false
noncomputable def n101_14 : Code := kid n101_12 true
noncomputable def n101_15 : Code := kid n101_11 true
noncomputable def n101_16 : Code := kid n101_15 false
noncomputable def n101_17 : Code := kid n101_16 false
noncomputable def n101_18 : Code := kid n101_17 false
noncomputable def n101_19 : Code := kid n101_17 true
noncomputable def n101_20 : Code := kid n101_19 false
noncomputable def n101_21 : Code := kid n101_19 true
noncomputable def n101_22 : Code := kid n101_21 false
noncomputable def n101_23 : Code := kid n101_21 true
noncomputable def n101_24 : Code := kid n101_15 true
noncomputable def n101_25 : Code := kid n101_4 true
noncomputable def n101_26 : Code := kid n101_25 false
noncomputable def n101_27 : Code := kid n101_25 true
@[simp] theorem e101_0 (fr : Fr) (st : St) : runI cfg 101 n101_0 fr st = thenR cfg 101 n101_2 (runI cfg 101 n101_1 fr st) := run_seq (by kernel_rfl)
@[simp] theorem e101_1 (fr : Fr) (st : St) : runI cfg 101 n101_1 fr st = ob (lookF fr 0) fun x0 => ob (lookF fr 1) fun x1 => ob (lookF fr 2) fun x2 => ob (lookF fr 3) fun x3 => (some (.normal, [(0, x0), (1, x1), (2, x2), (3, x3)], st) : Res) :=
  (runI_reg (c := n101_1) (id := 0) (ops := opsOf n101_1) (draw := false) (by kernel_rfl)).trans (by kernel_rfl)
@[simp] theorem e101_2 (fr : Fr) (st : St) : runI cfg 101 n101_2 fr st = thenR cfg 101 n101_4 (runI cfg 101 n101_3 fr st) := run_seq (by kernel_rfl)
@[simp] theorem e101_3 (fr : Fr) (st : St) : runI cfg 101 n101_3 fr st = ob (lookF fr 0) fun x0 => ob (lookF fr 1) fun x1 => ob (lookF fr 2) fun x2 => ob (lookF fr 3) fun x3 => ob (callI cfg 79 [x0] st) fun r1 => (some (.normal, [(1, x1), (2, x2), (3, x3), (9, (twV (cfg.pure 79) st r1))], (twS (cfg.pure 79) st r1)) : Res) :=
  (runI_reg (c := n101_3) (id := 1) (ops := opsOf n101_3) (draw := false) (by kernel_rfl)).trans (by kernel_rfl)
@[simp] theorem e101_4 (fr : Fr) (st : St) : runI cfg 101 n101_4 fr st = thenR cfg 101 n101_25 (runI cfg 101 n101_5 fr st) := run_seq (by kernel_rfl)
@[simp] theorem e101_5 (fr : Fr) (st : St) : runI cfg 101 n101_5 fr st = thenR cfg 101 n101_7 (runI cfg 101 n101_6 fr st) := run_seq (by kernel_rfl)
@[simp] theorem e101_6 (fr : Fr) (st : St) : runI cfg 101 n101_6 fr st = ob (lookF fr 1) fun x1 => ob (lookF fr 2) fun x2 => ob (lookF fr 3) fun x3 => ob (lookF fr 9) fun x9 => ob (lenV (.slice 5) st.H x9) fun x15 => (some (.normal, [(1, x1), (2, x2), (3, x3), (9, x9), (14, x9), (15, x15), (16, (.d (.int .i64 0)))], st) : Res) :=
  (runI_reg (c := n101_6) (id := 2) (ops := opsOf n101_6) (draw := false) (by kernel_rfl)).trans (by kernel_rfl)
@[simp] theorem e101_7 (fr : Fr) (st : St) : runI cfg 101 n101_7 fr st = blockI 0 (runI cfg 101 n101_8 fr st) := run_block (by kernel_rfl)
theorem l101_8 (fr : Fr) (st : St) : runI cfg 101 n101_8 fr st = loopR cfg 101 n101_8 st.H.length (runI cfg 101 n101_9 fr st) := run_loop (by kernel_rfl)
@[simp] theorem e101_9 (fr : Fr) (st : St) : runI cfg 101 n101_9 fr st = thenR cfg 101 n101_11 (runI cfg 101 n101_10 fr st) := run_seq (by kernel_rfl)
@[simp] theorem e101_10 (fr : Fr) (st : St) : runI cfg 101 n101_10 fr st = ob (lookF fr 1) fun x1 => ob (lookF fr 2) fun x2 => ob (lookF fr 3) fun x3 => ob (lookF fr 9) fun x9 => ob (lookF fr 14) fun x14 => ob (lookF fr 15) fun x15 => ob (lookF fr 16) fun x16 => ob (binV cfg.P (opAt n101_10 0) .lss 3 (.int .i64) x16 x15) fun x17 => (some (.normal, [(1, x1), (2, x2), (3, x3), (9, x9), (14, x14), (15, x15), (16, x16), (17, x17)], st) : Res) :=
  (runI_reg (c := n101_10) (id := 3) (ops := opsOf n101_10) (draw := false) (by kernel_rfl)).trans (by kernel_rfl)
@[simp] theorem e101_11 (fr : Fr) (st : St) : runI cfg 101 n101_11 fr st = thenR cfg 101 n101_15 (runI cfg 101 n101_12 fr st) := run_seq (by kernel_rfl)
@[simp] theorem e101_12 (fr : Fr) (st : St) : runI cfg 101 n101_12 fr st = ob (lookF fr 17) fun v => gC v none (runI cfg 101 n101_13 fr st) (runI cfg 101 n101_14 fr st) := run_cond (x := .tmp 17) (by kernel_rfl)
@[simp] theorem e101_13 (fr : Fr) (st : St) : runI cfg 101 n101_13 fr st = some (.normal, fr, st) := run_skip (by kernel_rfl)
@[simp] theorem e101_14 (fr : Fr) (st : St) : runI cfg 101 n101_14 fr st = some (.exit 0, fr, st) := run_exit (by kernel_rfl)
@[simp] theorem e101_15 (fr : Fr) (st : St) : runI cfg 101 n101_15 fr st = thenR cfg 101 n101_24 (runI cfg 101 n101_16 fr st) := run_seq (by kernel_rfl)
@[simp] theorem e101_16 (fr : Fr) (st : St) : runI cfg 101 n101_16 fr st = blockI 1 (runI cfg 101 n101_17 fr st) := run_block (by kernel_rfl)
@[simp] theorem e101_17 (fr : Fr) (st : St) : runI cfg 101 n101_17 fr st = thenR cfg 101 n101_19 (runI cfg 101 n101_18 fr st) := run_seq (by kernel_rfl)
@[simp] theorem e101_18 (fr : Fr) (st : St) : runI cfg 101 n101_18 fr st = ob (lookF fr 1) fun x1 => ob (lookF fr 2) fun x2 => ob (lookF fr 3) fun x3 => ob (lookF fr 9) fun x9 => ob (lookF fr 14) fun x14 => ob (lookF fr 15) fun x15 => ob (lookF fr 16) fun x16 => ob (ixV 1 x14 x16) fun x19 => ob (loadV 1 false st.H x19) fun x20 => (some (.normal, [(1, x1), (2, x2), (3, x3), (9, x9), (10, x16), (11, x20), (14, x14), (15, x15), (16, x16)], st) : Res) :=
  (runI_reg (c := n101_18) (id := 4) (ops := opsOf n101_18) (draw := false) (by kernel_rfl)).trans (by kernel_rfl)
@[simp] theorem e101_19 (fr : Fr) (st : St) : runI cfg 101 n101_19 fr st = thenR cfg 101 n101_21 (runI cfg 101 n101_20 fr st) := run_seq (by kernel_rfl)
@[simp] theorem e101_20 (fr : Fr) (st : St) : runI cfg 101 n101_20 fr st = ob (lookF fr 1) fun x1 => ob (lookF fr 2) fun x2 => ob (lookF fr 3) fun x3 => ob (lookF fr 9) fun x9 => ob (lookF fr 10) fun x10 => ob (lookF fr 11) fun x11 => ob (lookF fr 14) fun x14 => ob (lookF fr 15) fun x15 => ob (lookF fr 16) fun x16 => ob (binV cfg.P (opAt n101_20 2) .geq 5 (.int .u8) x11 x1) fun x23 => gC x23 (none) (ob (binV cfg.P (opAt n101_20 6) .leq 5 (.int .u8) x11 x2) fun x27 => (some (.normal, [(1, x1), (2, x2), (3, x3), (9, x9), (10, x10), (11, x11), (14, x14), (15, x15), (16, x16), (28, x27)], st) : Res)) ((some (.normal, [(1, x1), (2, x2), (3, x3), (9, x9), (10, x10), (11, x11), (14, x14), (15, x15), (16, x16), (28, ff)], st) : Res)) :=
  (runI_reg (c := n101_20) (id := 5) (ops := opsOf n101_20) (draw := false) (by kernel_rfl)).trans (by kernel_rfl)
@[simp] theorem e101_21 (fr : Fr) (st : St) : runI cfg 101 n101_21 fr st = ob (lookF fr 28) fun v => gC v none (runI cfg 101 n101_22 fr st) (runI cfg 101 n101_23 fr st) := run_cond (x := .tmp 28) (by kernel_rfl)
@[simp] theorem e101_22 (fr : Fr) (st : St) : runI cfg 101 n101_22 fr st = ob (lookF fr 1) fun x1 => ob (lookF fr 2) fun x2 => ob (lookF fr 3) fun x3 => ob (lookF fr 9) fun x9 => ob (lookF fr 10) fun x10 => ob (lookF fr 11) fun x11 => ob (lookF fr 14) fun x14 => ob (lookF fr 15) fun x15 => ob (lookF fr 16) fun x16 => ob (convV cfg.P (opAt n101_22 3) false (some (.int .u8)) (some (.int .i64)) none none x11) fun x32 => ob (binV cfg.P (opAt n101_22 5) .add 3 (.int .i64) x32 x3) fun x34 => ob (convV cfg.P (opAt n101_22 6) false (some (.int .i64)) (some (.int .u8)) none none x34) fun x35 => ob (ixV 1 x9 x10) fun x36 => ob (storeV 1 st.H x36 x35) fun h8 => (some (.normal, [(1, x1), (2, x2), (3, x3), (9, x9), (14, x14), (15, x15), (16, x16)], ⟨h8, st.E⟩) : Res) :=
  (runI_reg (c := n101_22) (id := 6) (ops := opsOf n101_22) (draw := false) (by kernel_rfl)).trans (by kernel_rfl)
@[simp] theorem e101_23 (fr : Fr) (st : St) : runI cfg 101 n101_23 fr st = some (.normal, fr, st) := run_skip (by kernel_rfl)
@[simp] theorem e101_24 (fr : Fr) (st : St) : runI cfg 101 n101_24 fr st = ob (lookF fr 1) fun x1 => ob (lookF fr 2) fun x2 => ob (lookF fr 3) fun x3 => ob (lookF fr 9) fun x9 => ob (lookF fr 14) fun x14 => ob (lookF fr 15) fun x15 => ob (lookF fr 16) fun x16 => ob (binV cfg.P (opAt n101_24 0) .add 3 (.int .i64) x16 (.d (.int .i64 1))) fun x37 => (some (.normal, [(1, x1), (2, x2), (3, x3), (9, x9), (14, x14), (15, x15), (16, x37)], st) : Res) :=
  (runI_reg (c := n101_24) (id := 7) (ops := opsOf n101_24) (draw := false) (by kernel_rfl)).trans (by kernel_rfl)
@[simp] theorem e101_25 (fr : Fr) (st : St) : runI cfg 101 n101_25 fr st = thenR cfg 101 n101_27 (runI cfg 101 n101_26 fr st) := run_seq (by kernel_rfl)
@[simp] theorem e101_26 (fr : Fr) (st : St) : runI cfg 101 n101_26 fr st = ob (lookF fr 9) fun x9 => (some (.normal, [(8, x9)], st) : Res) :=
  (runI_reg (c := n101_26) (id := 8) (ops := opsOf n101_26) (draw := false) (by kernel_rfl)).trans (by kernel_rfl)
@[simp] theorem e101_27 (fr : Fr) (st : St) : runI cfg 101 n101_27 fr st = some (.ret, fr, st) := run_ret (by kernel_rfl)
@[simp] theorem z101 (fr : Fr) (st : St) : endR cfg Try.f101 (some (.ret, fr, st)) = ob (lookF fr 8) fun x0 => some (x0, st) := end_r.trans (by kernel_rfl)
@[simp] theorem w101 (fr : Fr) (st : St) : endR cfg Try.f101 (some (.normal, fr, st)) = ob (lookF fr 8) fun x0 => some (x0, st) := end_n.trans (by kernel_rfl)
theorem c101 (ts : List T) (st : St) : callI cfg 101 ts st = ob (closeAll ts) fun ts => backR st (endR cfg Try.f101 (runI cfg 101 n101_0 (enumF 0 ts) ⟨[], []⟩)) := call_pure (by kernel_rfl) (by kernel_rfl) (by kernel_rfl) (by kernel_rfl)
/-! 102: slices.Reverse[[]byte,byte] -/
noncomputable def n102_0 : Code := codeB Try.f102
noncomputable def n102_1 : Code := kid n102_0 false
noncomputable def n102_2 : Code := kid n102_0 true
noncomputable def n102_3 : Code := kid n102_2 false
noncomputable def n102_4 : Code := kid n102_3 false
noncomputable def n102_5 : Code := kid n102_4 false
noncomputable def n102_6 : Code := kid n102_5 false
noncomputable def n102_7 : Code := kid n102_5 true
noncomputable def n102_8 : Code := kid n102_7 false
noncomputable def n102_9 : Code := kid n102_7 true
noncomputable def n102_10 : Code := kid n102_4 true
noncomputable def n102_11 : Code := kid n102_10 false
noncomputable def n102_12 : Code := kid n102_11 false
noncomputable def n102_13 : Code := kid n102_10 true
@[simp] theorem e102_0 (fr : Fr) (st : St) : runI cfg 102 n102_0 fr st = thenR cfg 102 n102_2 (runI cfg 102 n102_1 fr st) := run_seq (by kernel_rfl)
@[simp] theorem e102_1 (fr : Fr) (st : St) : runI cfg 102 n102_1 fr st = ob (lookF fr 0) fun x0 => ob (lenV (.slice 5) st.H x0) fun x5 => ob (binV cfg.P (opAt n102_1 2) .sub 3 (.int .i64) x5 (.d (.int .i64 1))) fun x6 => (some (.normal, [(0, x0), (2, (.d (.int .i64 0))), (3, x6)], st) : Res) :=
  (runI_reg (c := n102_1) (id := 0) (ops := opsOf n102_1) (draw := false) (by kernel_rfl)).trans (by kernel_rfl)
@[simp] theorem e102_2 (fr : Fr) (st : St) : runI cfg 102 n102_2 fr st = blockI 0 (runI cfg 102 n102_3 fr st) := run_block (by kernel_rfl)
theorem l102_3 (fr : Fr) (st : St) : runI cfg 102 n102_3 fr st = loopR cfg 102 n102_3 st.H.length (runI cfg 102 n102_4 fr st) := run_loop (by kernel_rfl)
@[simp] theorem e102_4 (fr : Fr) (st : St) : runI cfg 102 n102_4 fr st = thenR cfg 102 n102_10 (runI cfg 102 n102_5 fr st) := run_seq (by kernel_rfl)
@[simp] theorem e102_5 (fr : Fr) (st : St) : runI cfg 102 n102_5 fr st = thenR cfg 102 n102_7 (runI cfg 102 n102_6 fr st) := run_seq (by kernel_rfl)
@[simp] theorem e102_6 (fr : Fr) (st : St) : runI cfg 102 n102_6 fr st = ob (lookF fr 0) fun x0 => ob (lookF fr 2) fun x2 => ob (lookF fr 3) fun x3 => ob (binV cfg.P (opAt n102_6 2) .lss 3 (.int .i64) x2 x3) fun x9 => (some (.normal, [(0, x0), (2, x2), (3, x3), (9, x9)], st) : Res) :=
  (runI_reg (c := n102_6) (id := 1) (ops := opsOf n102_6) (draw := false) (by kernel_rfl)).trans (by kernel_rfl)
@[simp] theorem e102_7 (fr : Fr) (st : St) : runI cfg 102 n102_7 fr st = ob (lookF fr 9) fun v => gC v none (runI cfg 102 n102_8 fr st) (runI cfg 102 n102_9 fr st) := run_cond (x := .tmp 9) (by kernel_rfl)
@[simp] theorem e102_8 (fr : Fr) (st : St) : runI cfg 102 n102_8 fr st = some (.normal, fr, st) := run_skip (by kernel_rfl)
@[simp] theorem e102_9 (fr : Fr) (st : St) : runI cfg 102 n102_9 fr st = some (.exit 0, fr, st) := run_exit (by kernel_rfl)
@[simp] theorem e102_10 (fr : Fr) (st : St) : runI cfg 102 n102_10 fr st = thenR cfg 102 n102_13 (runI cfg 102 n102_11 fr st) := run_seq (by kernel_rfl)
@[simp] theorem e102_11 (fr : Fr) (st : St) : runI cfg 102 n102_11 fr st = blockI 1 (runI cfg 102 n102_12 fr st) := run_block (by kernel_rfl)
@[simp] theorem e102_12 (fr : Fr) (st : St) : runI cfg 102 n102_12 fr st = ob (lookF fr 0) fun x0 => ob (lookF fr 2) fun x2 => ob (lookF fr 3) fun x3 => ob (ixV 1 x0 x3) fun x20 => ob (loadV 1 false st.H x20) fun x21 => ob (ixV 1 x0 x2) fun x24 => ob (loadV 1 false st.H x24) fun x25 => ob (ixV 1 x0 x2) fun x26 => ob (storeV 1 st.H x26 x21) fun h13 => ob (ixV 1 x0 x3) fun x27 => ob (storeV 1 h13 x27 x25) fun h15 => (some (.normal, [(0, x0), (2, x2), (3, x3)], ⟨h15, st.E⟩) : Res) :=
  (runI_reg (c := n102_12) (id := 3) (ops := opsOf n102_12) (draw := true) (by kernel_rfl)).trans (by kernel_rfl)
@[simp] theorem e102_13 (fr : Fr) (st : St) : runI cfg 102 n102_13 fr st = ob (lookF fr 0) fun x0 => ob (lookF fr 2) fun x2 => ob (lookF fr 3) fun x3 => ob (binV cfg.P (opAt n102_13 1) .add 3 (.int .i64) x2 (.d (.int .i64 1))) fun x11 => ob (binV cfg.P (opAt n102_13 3) .sub 3 (.int .i64) x3 (.d (.int .i64 1))) fun x13 => (some (.normal, [(0, x0), (2, x11), (3, x13)], st) : Res) :=
  (runI_reg (c := n102_13) (id := 2) (ops := opsOf n102_13) (draw := false) (by kernel_rfl)).trans (by kernel_rfl)
@[simp] theorem z102 (fr : Fr) (st : St) : endR cfg Try.f102 (some (.ret, fr, st)) = some (.tup [], st) := end_r.trans (by kernel_rfl)
@[simp] theorem w102 (fr : Fr) (st : St) : endR cfg Try.f102 (some (.normal, fr, st)) = some (.tup [], st) := end_n.trans (by kernel_rfl)
theorem c102 (ts : List T) (st : St) : callI cfg 102 ts st = endR cfg Try.f102 (runI cfg 102 n102_0 (enumF 0 ts) st) := call_inl (by kernel_rfl) (by kernel_rfl) (by kernel_rfl) (by kernel_rfl)
/-! 103: slices.Concat[[]byte,byte] -/
noncomputable def n103_0 : Code := codeB Try.f103
noncomputable def n103_1 : Code := kid n103_0 false
noncomputable def n103_2 : Code := kid n103_0 true
noncomputable def n103_3 : Code := kid n103_2 false
noncomputable def n103_4 : Code := kid n103_2 true
noncomputable def n103_5 : Code := kid n103_4 false
noncomputable def n103_6 : Code := kid n103_5 false
noncomputable def n103_7 : Code := kid n103_5 true
noncomputable def n103_8 : Code := kid n103_7 false
noncomputable def n103_9 : Code := kid n103_8 false
noncomputable def n103_10 : Code := kid n103_9 false
noncomputable def n103_11 : Code := kid n103_9 true
noncomputable def n103_12 : Code := kid n103_11 false
noncomputable def n103_13 : Code := kid n103_12 false
noncomputable def n103_14 : Code := kid n103_12 true
noncomputable def n103_15 : Code := kid n103_11 true
noncomputable def n103_16 : Code := kid n103_15 false
noncomputable def n103_17 : Code := kid n103_16 false
noncomputable def n103_18 : Code := kid n103_17 false
noncomputable def n103_19 : Code := kid n103_17 true
noncomputable def n103_20 : Code := kid n103_19 false
noncomputable def n103_21 : Code := kid n103_19 true
noncomputable def n103_22 : Code := kid n103_21 false
noncomputable def n103_23 : Code := kid n103_21 true
noncomputable def n103_24 : Code := kid n103_23 false
noncomputable def n103_25 : Code := kid n103_23 true
noncomputable def n103_26 : Code := kid n103_15 true
noncomputable def n103_27 : Code := kid n103_4 true
noncomputable def n103_28 : Code := kid n103_27 false
noncomputable def n103_29 : Code := kid n103_27 true
noncomputable def n103_30 : Code := kid n103_29 false
noncomputable def n103_31 : Code := kid n103_30 false
noncomputable def n103_32 : Code := kid n103_30 true
noncomputable def n103_33 : Code := kid n103_32 false
noncomputable def n103_34 : Code := kid n103_33 false
noncomputable def n103_35 : Code := kid n103_34 false
noncomputable def n103_36 : Code := kid n103_34 true
noncomputable def n103_37 : Code := kid n103_36 false
noncomputable def n103_38 : Code := kid n103_37 false
noncomputable def n103_39 : Code := kid n103_37 true
noncomputable def n103_40 : Code := kid n103_36 true
noncomputable def n103_41 : Code := kid n103_40 false
noncomputable def n103_42 : Code := kid n103_41 false
noncomputable def n103_43 : Code := kid n103_42 false
noncomputable def n103_44 : Code := kid n103_42 true
noncomputable def n103_45 : Code := kid n103_40 true
noncomputable def n103_46 : Code := kid n103_29 true
noncomputable def n103_47 : Code := kid n103_46 false
noncomputable def n103_48 : Code := kid n103_46 true
@[simp] theorem e103_0 (fr : Fr) (st : St) : runI cfg 103 n103_0 fr st = thenR cfg 103 n103_2 (runI cfg 103 n103_1 fr st) := run_seq (by kernel_rfl)
@[simp] theorem e103_1 (fr : Fr) (st : St) : runI cfg 103 n103_1 fr st = ob (lookF fr 0) fun x0 => (some (.normal, [(0, x0)], st) : Res) :=
  (runI_reg (c := n103_1) (id := 0) (ops := opsOf n103_1) (draw := false) (by kernel_rfl)).trans (by kernel_rfl)
@[simp] theorem e103_2 (fr : Fr) (st : St) : runI cfg 103 n103_2 fr st = thenR cfg 103 n103_4 (runI cfg 103 n103_3 fr st) := run_seq (by kernel_rfl)
@[simp] theorem e103_3 (fr : Fr) (st : St) : runI cfg 103 n103_3 fr st = ob (lookF fr 0) fun x0 => (some (.normal, [(0, x0), (3, (.d (.int .i64 0)))], st) : Res) :=
  (runI_reg (c := n103_3) (id := 1) (ops := opsOf n103_3) (draw := false) (by kernel_rfl)).trans (by kernel_rfl)
@[simp] theorem e103_4 (fr : Fr) (st : St) : runI cfg 103 n103_4 fr st = thenR cfg 103 n103_27 (runI cfg 103 n103_5 fr st) := run_seq (by kernel_rfl)
@[simp] theorem e103_5 (fr : Fr) (st : St) : runI cfg 103 n103_5 fr st = thenR cfg 103 n103_7 (runI cfg 103 n103_6 fr st) := run_seq (by kernel_rfl)
@[simp] theorem e103_6 (fr : Fr) (st : St) : runI cfg 103 n103_6 fr st = ob (lookF fr 0) fun x0 => ob (lookF fr 3) fun x3 => ob (lenV (.slice 31) st.H x0) fun x10 => (some (.normal, [(0, x0), (3, x3), (9, x0), (10, x10), (11, (.d (.int .i64 0)))], st) : Res) :=
  (runI_reg (c := n103_6) (id := 2) (ops := opsOf n103_6) (draw := false) (by kernel_rfl)).trans (by kernel_rfl)
@[simp] theorem e103_7 (fr : Fr) (st : St) : runI cfg 103 n103_7 fr st = blockI 0 (runI cfg 103 n103_8 fr st) := run_block (by kernel_rfl)
theorem l103_8 (fr : Fr) (st : St) : runI cfg 103 n103_8 fr st = loopR cfg 103 n103_8 st.H.length (runI cfg 103 n103_9 fr st) := run_loop (by kernel_rfl)
@[simp] theorem e103_9 (fr : Fr) (st : St) : runI cfg 103 n103_9 fr st = thenR cfg 103 n103_11 (runI cfg 103 n103_10 fr st) := run_seq (by kernel_rfl)
@[simp] theorem e103_10 (fr : Fr) (st : St) : runI cfg 103 n103_10 fr st = ob (lookF fr 0) fun x0 => ob (lookF fr 3) fun x3 => ob (lookF fr 9) fun x9 => ob (lookF fr 10) fun x10 => ob (lookF fr 11) fun x11 => ob (binV cfg.P (opAt n103_10 0) .lss 3 (.int .i64) x11 x10) fun x12 => (some (.normal, [(0, x0), (3, x3), (9, x9), (10, x10), (11, x11), (12, x12)], st) : Res) :=
  (runI_reg (c := n103_10) (id := 3) (ops := opsOf n103_10) (draw := false) (by kernel_rfl)).trans (by kernel_rfl)
@[simp] theorem e103_11 (fr : Fr) (st : St) : runI cfg 103 n103_11 fr st = thenR cfg 103 n103_15 (runI cfg 103 n103_12 fr st) := run_seq (by kernel_rfl)
@[simp] theorem e103_12 (fr : Fr) (st : St) : runI cfg 103 n103_12 fr st = ob (lookF fr 12) fun v => gC v none (runI cfg 103 n103_13 fr st) (runI cfg 103 n103_14 fr st) := run_cond (x := .tmp 12) (by kernel_rfl)
@[simp] theorem e103_13 (fr : Fr) (st : St) : runI cfg 103 n103_13 fr st = some (.normal, fr, st) := run_skip (by kernel_rfl)
@[simp] theorem e103_14 (fr : Fr) (st : St) : runI cfg 103 n103_14 fr st = some (.exit 0, fr, st) := run_exit (by kernel_rfl)
@[simp] theorem e103_15 (fr : Fr) (st : St) : runI cfg 103 n103_15 fr st = thenR cfg 103 n103_26 (runI cfg 103 n103_16 fr st) := run_seq (by kernel_rfl)
@[simp] theorem e103_16 (fr : Fr) (st : St) : runI cfg 103 n103_16 fr st = blockI 1 (runI cfg 103 n103_17 fr st) := run_block (by kernel_rfl)
@[simp] theorem e103_17 (fr : Fr) (st : St) : runI cfg 103 n103_17 fr st = thenR cfg 103 n103_19 (runI cfg 103 n103_18 fr st) := run_seq (by kernel_rfl)
@[simp] theorem e103_18 (fr : Fr) (st : St) : runI cfg 103 n103_18 fr st = ob (lookF fr 0) fun x0 => ob (lookF fr 3) fun x3 => ob (lookF fr 9) fun x9 => ob (lookF fr 10) fun x10 => ob (lookF fr 11) fun x11 => ob (ixV 1 x9 x11) fun x13 => ob (loadV 1 false st.H x13) fun x14 => (some (.normal, [(0, x0), (3, x3), (5, x14), (9, x9), (10, x10), (11, x11)], st) : Res) :=
  (runI_reg (c := n103_18) (id := 4) (ops := opsOf n103_18) (draw := false) (by kernel_rfl)).trans (by kernel_rfl)
@[simp] theorem e103_19 (fr : Fr) (st : St) : runI cfg 103 n103_19 fr st = thenR cfg 103 n103_21 (runI cfg 103 n103_20 fr st) := run_seq (by kernel_rfl)
@[simp] theorem e103_20 (fr : Fr) (st : St) : runI cfg 103 n103_20 fr st = ob (lookF fr 0) fun x0 => ob (lookF fr 3) fun x3 => ob (lookF fr 5) fun x5 => ob (lookF fr 9) fun x9 => ob (lookF fr 10) fun x10 => ob (lookF fr 11) fun x11 => ob (lenV (.slice 5) st.H x5) fun x17 => ob (binV cfg.P (opAt n103_20 3) .add 3 (.int .i64) x3 x17) fun x18 => (some (.normal, [(0, x0), (3, x18), (9, x9), (10, x10), (11, x11)], st) : Res) :=
  (runI_reg (c := n103_20) (id := 5) (ops := opsOf n103_20) (draw := false) (by kernel_rfl)).trans (by kernel_rfl)
@[simp] theorem e103_21 (fr : Fr) (st : St) : runI cfg 103 n103_21 fr st = thenR cfg 103 n103_23 (runI cfg 103 n103_22 fr st) := run_seq (by kernel_rfl)
@[simp] theorem e103_22 (fr : Fr) (st : St) : runI cfg 103 n103_22 fr st = ob (lookF fr 0) fun x0 => ob (lookF fr 3) fun x3 => ob (lookF fr 9) fun x9 => ob (lookF fr 10) fun x10 => ob (lookF fr 11) fun x11 => ob (binV cfg.P (opAt n103_22 1) .lss 3 (.int .i64) x3 (.d (.int .i64 0))) fun x20 => (some (.normal, [(0, x0), (3, x3), (9, x9), (10, x10), (11, x11), (20, x20)], st) : Res) :=
  (runI_reg (c := n103_22) (id := 6) (ops := opsOf n103_22) (draw := false) (by kernel_rfl)).trans (by kernel_rfl)
@[simp] theorem e103_23 (fr : Fr) (st : St) : runI cfg 103 n103_23 fr st = ob (lookF fr 20) fun v => gC v none (runI cfg 103 n103_24 fr st) (runI cfg 103 n103_25 fr st) := run_cond (x := .tmp 20) (by kernel_rfl)
@[simp] theorem e103_25 (fr : Fr) (st : St) : runI cfg 103 n103_25 fr st = some (.normal, fr, st) := run_skip (by kernel_rfl)
@[simp] theorem e103_26 (fr : Fr) (st : St) : runI cfg 103 n103_26 fr st = ob (lookF fr 0) fun x0 => ob (lookF fr 3) fun x3 => ob (lookF fr 9) fun x9 => ob (lookF fr 10) fun x10 => ob (lookF fr 11) fun x11 => ob (binV cfg.P (opAt n103_26 0) .add 3 (.int .i64) x11 (.d (.int .i64 1))) fun x22 => (some (.normal, [(0, x0), (3, x3), (9, x9), (10, x10), (11, x22)], st) : Res) :=
  (runI_reg (c := n103_26) (id := 8) (ops := opsOf n103_26) (draw := false) (by kernel_rfl)).trans (by kernel_rfl)
@[simp] theorem e103_27 (fr : Fr) (st : St) : runI cfg 103 n103_27 fr st = thenR cfg 103 n103_29 (runI cfg 103 n103_28 fr st) := run_seq (by kernel_rfl)
@[simp] theorem e103_28 (fr : Fr) (st : St) : runI cfg 103 n103_28 fr st = ob (lookF fr 0) fun x0 => ob (lookF fr 3) fun x3 => ob (callI cfg 112 [nilS, x3] st) fun r1 => (some (.normal, [(0, x0), (6, r1.1)], r1.2) : Res) :=
  (runI_reg (c := n103_28) (id := 9) (ops := opsOf n103_28) (draw := false) (by kernel_rfl)).trans (by kernel_rfl)
@[simp] theorem e103_29 (fr : Fr) (st : St) : runI cfg 103 n103_29 fr st = thenR cfg 103 n103_46 (runI cfg 103 n103_30 fr st) := run_seq (by kernel_rfl)
@[simp] theorem e103_30 (fr : Fr) (st : St) : runI cfg 103 n103_30 fr st = thenR cfg 103 n103_32 (runI cfg 103 n103_31 fr st) := run_seq (by kernel_rfl)
@[simp] theorem e103_31 (fr : Fr) (st : St) : runI cfg 103 n103_31 fr st = ob (lookF fr 0) fun x0 => ob (lookF fr 6) fun x6 => ob (lenV (.slice 31) st.H x0) fun x26 => (some (.normal, [(6, x6), (25, x0), (26, x26), (27, (.d (.int .i64 0)))], st) : Res) :=
  (runI_reg (c := n103_31) (id := 10) (ops := opsOf n103_31) (draw := false) (by kernel_rfl)).trans (by kernel_rfl)
@[simp] theorem e103_32 (fr : Fr) (st : St) : runI cfg 103 n103_32 fr st = blockI 2 (runI cfg 103 n103_33 fr st) := run_block (by kernel_rfl)
theorem l103_33 (fr : Fr) (st : St) : runI cfg 103 n103_33 fr st = loopR cfg 103 n103_33 st.H.length (runI cfg 103 n103_34 fr st) := run_loop (by kernel_rfl)
@[simp] theorem e103_34 (fr : Fr) (st : St) : runI cfg 103 n103_34 fr st = thenR cfg 103 n103_36 (runI cfg 103 n103_35 fr st) := run_seq (by kernel_rfl)
@[simp] theorem e103_35 (fr : Fr) (st : St) : runI cfg 103 n103_35 fr st = ob (lookF fr 6) fun x6 => ob (lookF fr 25) fun x25 => ob (lookF fr 26) fun x26 => ob (lookF fr 27) fun x27 => ob (binV cfg.P (opAt n103_35 0) .lss 3 (.int .i64) x27 x26) fun x28 => (some (.normal, [(6, x6), (25, x25), (26, x26), (27, x27), (28, x28)], st) : Res) :=
  (runI_reg (c := n103_35) (id := 11) (ops := opsOf n103_35) (draw := false) (by kernel_rfl)).trans (by kernel_rfl)
@[simp] theorem e103_36 (fr : Fr) (st : St) : runI cfg 103 n103_36 fr st = thenR cfg 103 n103_40 (runI cfg 103 n103_37 fr st) := run_seq (by kernel_rfl)
@[simp] theorem e103_37 (fr : Fr) (st : St) : runI cfg 103 n103_37 fr st = ob (lookF fr 28) fun v => gC v none (runI cfg 103 n103_38 fr st) (runI cfg 103 n103_39 fr st) := run_cond (x := .tmp 28) (by kernel_rfl)
@[simp] theorem e103_38 (fr : Fr) (st : St) : runI cfg 103 n103_38 fr st = some (.normal, fr, st) := run_skip (by kernel_rfl)
@[simp] theorem e103_39 (fr : Fr) (st : St) : runI cfg 103 n103_39 fr st = some (.exit 2, fr, st) := run_exit (by kernel_rfl)
@[simp] theorem e103_40 (fr : Fr) (st : St) : runI cfg 103 n103_40 fr st = thenR cfg 103 n103_45 (runI cfg 103 n103_41 fr st) := run_seq (by kernel_rfl)
@[simp] theorem e103_41 (fr : Fr) (st : St) : runI cfg 103 n103_41 fr st = blockI 3 (runI cfg 103 n103_42 fr st) := run_block (by kernel_rfl)
@[simp] theorem e103_42 (fr : Fr) (st : St) : runI cfg 103 n103_42 fr st = thenR cfg 103 n103_44 (runI cfg 103 n103_43 fr st) := run_seq (by kernel_rfl)
@[simp] theorem e103_43 (fr : Fr) (st : St) : runI cfg 103 n103_43 fr st = ob (lookF fr 6) fun x6 => ob (lookF fr 25) fun x25 => ob (lookF fr 26) fun x26 => ob (lookF fr 27) fun x27 => ob (ixV 1 x25 x27) fun x29 => ob (loadV 1 false st.H x29) fun x30 => (some (.normal, [(6, x6), (8, x30), (25, x25), (26, x26), (27, x27)], st) : Res) :=
  (runI_reg (c := n103_43) (id := 12) (ops := opsOf n103_43) (draw := false) (by kernel_rfl)).trans (by kernel_rfl)
@[simp] theorem e103_44 (fr : Fr) (st : St) : runI cfg 103 n103_44 fr st = ob (lookF fr 6) fun x6 => ob (lookF fr 8) fun x8 => ob (lookF fr 25) fun x25 => ob (lookF fr 26) fun x26 => ob (lookF fr 27) fun x27 => ob (appV 1 1 st x6 x8) fun a2 => (some (.normal, [(6, a2.1), (25, x25), (26, x26), (27, x27)], ⟨st.H, a2.2⟩) : Res) :=
  (runI_reg (c := n103_44) (id := 13) (ops := opsOf n103_44) (draw := false) (by kernel_rfl)).trans (by kernel_rfl)
@[simp] theorem e103_45 (fr : Fr) (st : St) : runI cfg 103 n103_45 fr st = ob (lookF fr 6) fun x6 => ob (lookF fr 25) fun x25 => ob (lookF fr 26) fun x26 => ob (lookF fr 27) fun x27 => ob (binV cfg.P (opAt n103_45 0) .add 3 (.int .i64) x27 (.d (.int .i64 1))) fun x34 => (some (.normal, [(6, x6), (25, x25), (26, x26), (27, x34)], st) : Res) :=
  (runI_reg (c := n103_45) (id := 14) (ops := opsOf n103_45) (draw := false) (by kernel_rfl)).trans (by kernel_rfl)
@[simp] theorem e103_46 (fr : Fr) (st : St) : runI cfg 103 n103_46 fr st = thenR cfg 103 n103_48 (runI cfg 103 n103_47 fr st) := run_seq (by kernel_rfl)
@[simp] theorem e103_47 (fr : Fr) (st : St) : runI cfg 103 n103_47 fr st = ob (lookF fr 6) fun x6 => (some (.normal, [(2, x6)], st) : Res) :=
  (runI_reg (c := n103_47) (id := 15) (ops := opsOf n103_47) (draw := false) (by kernel_rfl)).trans (by kernel_rfl)
@[simp] theorem e103_48 (fr : Fr) (st : St) : runI cfg 103 n103_48 fr st = some (.ret, fr, st) := run_ret (by kernel_rfl)
@[simp] theorem z103 (fr : Fr) (st : St) : endR cfg Try.f103 (some (.ret, fr, st)) = ob (lookF fr 2) fun x0 => some (x0, st) := end_r.trans (by kernel_rfl)
@[simp] theorem w103 (fr : Fr) (st : St) : endR cfg Try.f103 (some (.normal, fr, st)) = ob (lookF fr 2) fun x0 => some (x0, st) := end_n.trans (by kernel_rfl)
theorem c103 (ts : List T) (st : St) : callI cfg 103 ts st = ob (closeAll ts) fun ts => backR st (endR cfg Try.f103 (runI cfg 103 n103_0 (enumF 0 ts) ⟨[], []⟩)) := call_pure (by kernel_rfl) (by kernel_rfl) (by kernel_rfl) (by kernel_rfl)
/-! 104: fettle.acts.joined -/
noncomputable def n104_0 : Code := codeB Try.f104
noncomputable def n104_1 : Code := kid n104_0 false
noncomputable def n104_2 : Code := kid n104_0 true
noncomputable def n104_3 : Code := kid n104_2 false
noncomputable def n104_4 : Code := kid n104_2 true
noncomputable def n104_5 : Code := kid n104_4 false
noncomputable def n104_6 : Code := kid n104_5 false
noncomputable def n104_7 : Code := kid n104_5 true
noncomputable def n104_8 : Code := kid n104_7 false
noncomputable def n104_9 : Code := kid n104_8 false
noncomputable def n104_10 : Code := kid n104_9 false
noncomputable def n104_11 : Code := kid n104_9 true
noncomputable def n104_12 : Code := kid n104_11 false
noncomputable def n104_13 : Code := kid n104_12 false
noncomputable def n104_14 : Code := kid n104_12 true
noncomputable def n104_15 : Code := kid n104_11 true
noncomputable def n104_16 : Code := kid n104_15 false
noncomputable def n104_17 : Code := kid n104_16 false
noncomputable def n104_18 : Code := kid n104_17 false
noncomputable def n104_19 : Code := kid n104_17 true
noncomputable def n104_20 : Code := kid n104_19 false
noncomputable def n104_21 : Code := kid n104_20 false
noncomputable def n104_22 : Code := kid n104_20 true
noncomputable def n104_23 : Code := kid n104_22 false
noncomputable def n104_24 : Code := kid n104_22 true
noncomputable def n104_25 : Code := kid n104_19 true
noncomputable def n104_26 : Code := kid n104_15 true
noncomputable def n104_27 : Code := kid n104_4 true
noncomputable def n104_28 : Code := kid n104_27 false
noncomputable def n104_29 : Code := kid n104_27 true
@[simp] theorem e104_0 (fr : Fr) (st : St) : runI cfg 104 n104_0 fr st = thenR cfg 104 n104_2 (runI cfg 104 n104_1 fr st) := run_seq (by kernel_rfl)
@[simp] theorem e104_1 (fr : Fr) (st : St) : runI cfg 104 n104_1 fr st = ob (lookF fr 0) fun x0 => ob (lookF fr 1) fun x1 => (some (.normal, [(0, x0), (1, x1)], st) : Res) :=
  (runI_reg (c := n104_1) (id := 0) (ops := opsOf n104_1) (draw := false) (by kernel_rfl)).trans (by kernel_rfl)
@[simp] theorem e104_2 (fr : Fr) (st : St) : runI cfg 104 n104_2 fr st = thenR cfg 104 n104_4 (runI cfg 104 n104_3 fr st) := run_seq (by kernel_rfl)
@[simp] theorem e104_3 (fr : Fr) (st : St) : runI cfg 104 n104_3 fr st = ob (lookF fr 0) fun x0 => ob (lookF fr 1) fun x1 => (some (.normal, [(0, x0), (1, x1), (5, nilS)], st) : Res) :=
  (runI_reg (c := n104_3) (id := 1) (ops := opsOf n104_3) (draw := false) (by kernel_rfl)).trans (by kernel_rfl)
@[simp] theorem e104_4 (fr : Fr) (st : St) : runI cfg 104 n104_4 fr st = thenR cfg 104 n104_27 (runI cfg 104 n104_5 fr st) := run_seq (by kernel_rfl)
@[simp] theorem e104_5 (fr : Fr) (st : St) : runI cfg 104 n104_5 fr st = thenR cfg 104 n104_7 (runI cfg 104 n104_6 fr st) := run_seq (by kernel_rfl)
@[simp] theorem e104_6 (fr : Fr) (st : St) : runI cfg 104 n104_6 fr st = ob (lookF fr 0) fun x0 => ob (lookF fr 1) fun x1 => ob (lookF fr 5) fun x5 => ob (lenV (.slice 5) st.H x0) fun x9 => (some (.normal, [(1, x1), (5, x5), (8, x0), (9, x9), (10, (.d (.int .i64 0)))], st) : Res) :=
  (runI_reg (c := n104_6) (id := 2) (ops := opsOf n104_6) (draw := false) (by kernel_rfl)).trans (by kernel_rfl)
@[simp] theorem e104_7 (fr : Fr) (st : St) : runI cfg 104 n104_7 fr st = blockI 0 (runI cfg 104 n104_8 fr st) := run_block (by kernel_rfl)
theorem l104_8 (fr : Fr) (st : St) : runI cfg 104 n104_8 fr st = loopR cfg 104 n104_8 st.H.length (runI cfg 104 n104_9 fr st) := run_loop (by kernel_rfl)
@[simp] theorem e104_9 (fr : Fr) (st : St) : runI cfg 104 n104_9 fr st = thenR cfg 104 n104_11 (runI cfg 104 n104_10 fr st) := run_seq (by kernel_rfl)
@[simp] theorem e104_10 (fr : Fr) (st : St) : runI cfg 104 n104_10 fr st = ob (lookF fr 1) fun x1 => ob (lookF fr 5) fun x5 => ob (lookF fr 8) fun x8 => ob (lookF fr 9) fun x9 => ob (lookF fr 10) fun x10 => ob (binV cfg.P (opAt n104_10 0) .lss 3 (.int .i64) x10 x9) fun x11 => (some (.normal, [(1, x1), (5, x5), (8, x8), (9, x9), (10, x10), (11, x11)], st) : Res) :=
  (runI_reg (c := n104_10) (id := 3) (ops := opsOf n104_10) (draw := false) (by kernel_rfl)).trans (by kernel_rfl)
@[simp] theorem e104_11 (fr : Fr) (st : St) : runI cfg 104 n104_11 fr st = thenR cfg 104 n104_15 (runI cfg 104 n104_12 fr st) := run_seq (by kernel_rfl)
@[simp] theorem e104_12 (fr : Fr) (st : St) : runI cfg 104 n104_12 fr st = ob (lookF fr 11) fun v => gC v none (runI cfg 104 n104_13 fr st) (runI cfg 104 n104_14 fr st) := run_cond (x := .tmp 11) (by kernel_rfl)
@[simp] theorem e104_13 (fr : Fr) (st : St) : runI cfg 104 n104_13 fr st = some (.normal, fr, st) := run_skip (by kernel_rfl)
@[simp] theorem e104_14 (fr : Fr) (st : St) : runI cfg 104 n104_14 fr st = some (.exit 0, fr, st) := run_exit (by kernel_rfl)
@[simp] theorem e104_15 (fr : Fr) (st : St) : runI cfg 104 n104_15 fr st = thenR cfg 104 n104_26 (runI cfg 104 n104_16 fr st) := run_seq (by kernel_rfl)
@[simp] theorem e104_16 (fr : Fr) (st : St) : runI cfg 104 n104_16 fr st = blockI 1 (runI cfg 104 n104_17 fr st) := run_block (by kernel_rfl)
@[simp] theorem e104_17 (fr : Fr) (st : St) : runI cfg 104 n104_17 fr st = thenR cfg 104 n104_19 (runI cfg 104 n104_18 fr st) := run_seq (by kernel_rfl)
@[simp] theorem e104_18 (fr : Fr) (st : St) : runI cfg 104 n104_18 fr st = ob (lookF fr 1) fun x1 => ob (lookF fr 5) fun x5 => ob (lookF fr 8) fun x8 => ob (lookF fr 9) fun x9 => ob (lookF fr 10) fun x10 => ob (ixV 1 x8 x10) fun x13 => ob (loadV 1 false st.H x13) fun x14 => (some (.normal, [(1, x1), (5, x5), (6, x10), (7, x14), (8, x8), (9, x9), (10, x10)], st) : Res) :=
  (runI_reg (c := n104_18) (id := 4) (ops := opsOf n104_18) (draw := false) (by kernel_rfl)).trans (by kernel_rfl)
@[simp] theorem e104_19 (fr : Fr) (st : St) : runI cfg 104 n104_19 fr st = thenR cfg 104 n104_25 (runI cfg 104 n104_20 fr st) := run_seq (by kernel_rfl)
@[simp] theorem e104_20 (fr : Fr) (st : St) : runI cfg 104 n104_20 fr st = thenR cfg 104 n104_22 (runI cfg 104 n104_21 fr st) := run_seq (by kernel_rfl)
@[simp] theorem e104_21 (fr : Fr) (st : St) : runI cfg 104 n104_21 fr st = ob (lookF fr 1) fun x1 => ob (lookF fr 5) fun x5 => ob (lookF fr 6) fun x6 => ob (lookF fr 7) fun x7 => ob (lookF fr 8) fun x8 => ob (lookF fr 9) fun x9 => ob (lookF fr 10) fun x10 => ob (binV cfg.P (opAt n104_21 1) .gtr 3 (.int .i64) x6 (.d (.int .i64 0))) fun x16 => (some (.normal, [(1, x1), (5, x5), (7, x7), (8, x8), (9, x9), (10, x10), (16, x16)], st) : Res) :=
  (runI_reg (c := n104_21) (id := 5) (ops := opsOf n104_21) (draw := false) (by kernel_rfl)).trans (by kernel_rfl)
@[simp] theorem e104_22 (fr : Fr) (st : St) : runI cfg 104 n104_22 fr st = ob (lookF fr 16) fun v => gC v none (runI cfg 104 n104_23 fr st) (runI cfg 104 n104_24 fr st) := run_cond (x := .tmp 16) (by kernel_rfl)
@[simp] theorem e104_23 (fr : Fr) (st : St) : runI cfg 104 n104_23 fr st = ob (lookF fr 1) fun x1 => ob (lookF fr 5) fun x5 => ob (lookF fr 7) fun x7 => ob (lookF fr 8) fun x8 => ob (lookF fr 9) fun x9 => ob (lookF fr 10) fun x10 => ob (appV 1 1 st x5 x1) fun a2 => (some (.normal, [(1, x1), (5, a2.1), (7, x7), (8, x8), (9, x9), (10, x10)], ⟨st.H, a2.2⟩) : Res) :=
  (runI_reg (c := n104_23) (id := 6) (ops := opsOf n104_23) (draw := false) (by kernel_rfl)).trans (by kernel_rfl)
@[simp] theorem e104_24 (fr : Fr) (st : St) : runI cfg 104 n104_24 fr st = some (.normal, fr, st) := run_skip (by kernel_rfl)
@[simp] theorem e104_25 (fr : Fr) (st : St) : runI cfg 104 n104_25 fr st = ob (lookF fr 1) fun x1 => ob (lookF fr 5) fun x5 => ob (lookF fr 7) fun x7 => ob (lookF fr 8) fun x8 => ob (lookF fr 9) fun x9 => ob (lookF fr 10) fun x10 => ob (fillA 1 (repeatL [(.d (.int .u8 0))] 1) [(0, x7)]) fun c2 => ob (T.toDs c2) fun d2 => ob (appV 1 1 st x5 (.sl false 1 d2 .lit)) fun a3 => (some (.normal, [(1, x1), (5, a3.1), (8, x8), (9, x9), (10, x10)], ⟨st.H, a3.2⟩) : Res) :=
  (runI_reg (c := n104_25) (id := 7) (ops := opsOf n104_25) (draw := false) (by kernel_rfl)).trans (by kernel_rfl)
@[simp] theorem e104_26 (fr : Fr) (st : St) : runI cfg 104 n104_26 fr st = ob (lookF fr 1) fun x1 => ob (lookF fr 5) fun x5 => ob (lookF fr 8) fun x8 => ob (lookF fr 9) fun x9 => ob (lookF fr 10) fun x10 => ob (binV cfg.P (opAt n104_26 0) .add 3 (.int .i64) x10 (.d (.int .i64 1))) fun x24 => (some (.normal, [(1, x1), (5, x5), (8, x8), (9, x9), (10, x24)], st) : Res) :=
  (runI_reg (c := n104_26) (id := 8) (ops := opsOf n104_26) (draw := false) (by kernel_rfl)).trans (by kernel_rfl)
@[simp] theorem e104_27 (fr : Fr) (st : St) : runI cfg 104 n104_27 fr st = thenR cfg 104 n104_29 (runI cfg 104 n104_28 fr st) := run_seq (by kernel_rfl)
@[simp] theorem e104_28 (fr : Fr) (st : St) : runI cfg 104 n104_28 fr st = ob (lookF fr 5) fun x5 => (some (.normal, [(4, x5)], st) : Res) :=
  (runI_reg (c := n104_28) (id := 9) (ops := opsOf n104_28) (draw := false) (by kernel_rfl)).trans (by kernel_rfl)
@[simp] theorem e104_29 (fr : Fr) (st : St) : runI cfg 104 n104_29 fr st = some (.ret, fr, st) := run_ret (by kernel_rfl)
@[simp] theorem z104 (fr : Fr) (st : St) : endR cfg Try.f104 (some (.ret, fr, st)) = ob (lookF fr 4) fun x0 => some (x0, st) := end_r.trans (by kernel_rfl)
@[simp] theorem w104 (fr : Fr) (st : St) : endR cfg Try.f104 (some (.normal, fr, st)) = ob (lookF fr 4) fun x0 => some (x0, st) := end_n.trans (by kernel_rfl)
theorem c104 (ts : List T) (st : St) : callI cfg 104 ts st = ob (closeAll ts) fun ts => backR st (endR cfg Try.f104 (runI cfg 104 n104_0 (enumF 0 ts) ⟨[], []⟩)) := call_pure (by kernel_rfl) (by kernel_rfl) (by kernel_rfl) (by kernel_rfl)
/-! 108: fettle.acts.text -/
noncomputable def n108_0 : Code := codeB Try.f108
noncomputable def n108_1 : Code := kid n108_0 false
noncomputable def n108_2 : Code := kid n108_0 true
noncomputable def n108_3 : Code := kid n108_2 false
noncomputable def n108_4 : Code := kid n108_2 true
@[simp] theorem e108_0 (fr : Fr) (st : St) : runI cfg 108 n108_0 fr st = thenR cfg 108 n108_2 (runI cfg 108 n108_1 fr st) := run_seq (by kernel_rfl)
@[simp] theorem e108_1 (fr : Fr) (st : St) : runI cfg 108 n108_1 fr st = ob (lookF fr 0) fun x0 => (some (.normal, [(0, x0)], st) : Res) :=
  (runI_reg (c := n108_1) (id := 0) (ops := opsOf n108_1) (draw := false) (by kernel_rfl)).trans (by kernel_rfl)
@[simp] theorem e108_2 (fr : Fr) (st : St) : runI cfg 108 n108_2 fr st = thenR cfg 108 n108_4 (runI cfg 108 n108_3 fr st) := run_seq (by kernel_rfl)
@[simp] theorem e108_3 (fr : Fr) (st : St) : runI cfg 108 n108_3 fr st = ob (lookF fr 0) fun x0 => ob (binV cfg.P (opAt n108_3 1) .eql 3 (.int .i64) x0 (.d (.int .i64 1))) fun x4 => gC x4 (none) ((some (.normal, [(2, tt)], st) : Res)) (ob (binV cfg.P (opAt n108_3 4) .eql 3 (.int .i64) x0 (.d (.int .i64 10))) fun x7 => (some (.normal, [(2, x7)], st) : Res)) :=
  (runI_reg (c := n108_3) (id := 1) (ops := opsOf n108_3) (draw := false) (by kernel_rfl)).trans (by kernel_rfl)
@[simp] theorem e108_4 (fr : Fr) (st : St) : runI cfg 108 n108_4 fr st = some (.ret, fr, st) := run_ret (by kernel_rfl)
@[simp] theorem z108 (fr : Fr) (st : St) : endR cfg Try.f108 (some (.ret, fr, st)) = ob (lookF fr 2) fun x0 => some (x0, st) := end_r.trans (by kernel_rfl)
@[simp] theorem w108 (fr : Fr) (st : St) : endR cfg Try.f108 (some (.normal, fr, st)) = ob (lookF fr 2) fun x0 => some (x0, st) := end_n.trans (by kernel_rfl)
theorem c108 (ts : List T) (st : St) : callI cfg 108 ts st = ob (closeAll ts) fun ts => backR st (endR cfg Try.f108 (runI cfg 108 n108_0 (enumF 0 ts) ⟨[], []⟩)) := call_pure (by kernel_rfl) (by kernel_rfl) (by kernel_rfl) (by kernel_rfl)
/-! 109: fettle.acts.fits -/
noncomputable def n109_0 : Code := codeB Try.f109
noncomputable def n109_1 : Code := kid n109_0 false
noncomputable def n109_2 : Code := kid n109_0 true
noncomputable def n109_3 : Code := kid n109_2 false
noncomputable def n109_4 : Code := kid n109_3 false
noncomputable def n109_5 : Code := kid n109_3 true
noncomputable def n109_6 : Code := kid n109_5 false
noncomputable def n109_7 : Code := kid n109_6 false
noncomputable def n109_8 : Code := kid n109_7 false
noncomputable def n109_9 : Code := kid n109_7 true
noncomputable def n109_10 : Code := kid n109_9 false
noncomputable def n109_11 : Code := kid n109_10 false
noncomputable def n109_12 : Code := kid n109_10 true
noncomputable def n109_13 : Code := kid n109_9 true
noncomputable def n109_14 : Code := kid n109_13 false
noncomputable def n109_15 : Code := kid n109_14 false
noncomputable def n109_16 : Code := kid n109_15 false
noncomputable def n109_17 : Code := kid n109_15 true
noncomputable def n109_18 : Code := kid n109_17 false
noncomputable def n109_19 : Code := kid n109_17 true
noncomputable def n109_20 : Code := kid n109_19 false
noncomputable def n109_21 : Code := kid n109_20 false
noncomputable def n109_22 : Code := kid n109_20 true
noncomputable def n109_23 : Code := kid n109_19 true
noncomputable def n109_24 : Code := kid n109_13 true
noncomputable def n109_25 : Code := kid n109_2 true
noncomputable def n109_26 : Code := kid n109_25 false
noncomputable def n109_27 : Code := kid n109_25 true
@[simp] theorem e109_0 (fr : Fr) (st : St) : runI cfg 109 n109_0 fr st = thenR cfg 109 n109_2 (runI cfg 109 n109_1 fr st) := run_seq (by kernel_rfl)
@[simp] theorem e109_1 (fr : Fr) (st : St) : runI cfg 109 n109_1 fr st = ob (lookF fr 0) fun x0 => (some (.normal, [(0, x0)], st) : Res) :=
  (runI_reg (c := n109_1) (id := 0) (ops := opsOf n109_1) (draw := false) (by kernel_rfl)).trans (by kernel_rfl)
@[simp] theorem e109_2 (fr : Fr) (st : St) : runI cfg 109 n109_2 fr st = thenR cfg 109 n109_25 (runI cfg 109 n109_3 fr st) := run_seq (by kernel_rfl)
@[simp] theorem e109_3 (fr : Fr) (st : St) : runI cfg 109 n109_3 fr st = thenR cfg 109 n109_5 (runI cfg 109 n109_4 fr st) := run_seq (by kernel_rfl)
@[simp] theorem e109_4 (fr : Fr) (st : St) : runI cfg 109 n109_4 fr st = ob (lookF fr 0) fun x0 => ob (lenV .string st.H x0) fun x5 => (some (.normal, [(0, x0), (5, x5), (6, (.d (.int .i64 0)))], st) : Res) :=
  (runI_reg (c := n109_4) (id := 1) (ops := opsOf n109_4) (draw := false) (by kernel_rfl)).trans (by kernel_rfl)
@[simp] theorem e109_5 (fr : Fr) (st : St) : runI cfg 109 n109_5 fr st = blockI 0 (runI cfg 109 n109_6 fr st) := run_block (by kernel_rfl)
theorem l109_6 (fr : Fr) (st : St) : runI cfg 109 n109_6 fr st = loopR cfg 109 n109_6 st.H.length (runI cfg 109 n109_7 fr st) := run_loop (by kernel_rfl)
@[simp] theorem e109_7 (fr : Fr) (st : St) : runI cfg 109 n109_7 fr st = thenR cfg 109 n109_9 (runI cfg 109 n109_8 fr st) := run_seq (by kernel_rfl)
@[simp] theorem e109_8 (fr : Fr) (st : St) : runI cfg 109 n109_8 fr st = ob (lookF fr 0) fun x0 => ob (lookF fr 5) fun x5 => ob (lookF fr 6) fun x6 => ob (binV cfg.P (opAt n109_8 0) .lss 3 (.int .i64) x6 x5) fun x7 => (some (.normal, [(0, x0), (5, x5), (6, x6), (7, x7)], st) : Res) :=
  (runI_reg (c := n109_8) (id := 2) (ops := opsOf n109_8) (draw := false) (by kernel_rfl)).trans (by kernel_rfl)
@[simp] theorem e109_9 (fr : Fr) (st : St) : runI cfg 109 n109_9 fr st = thenR cfg 109 n109_13 (runI cfg 109 n109_10 fr st) := run_seq (by kernel_rfl)
@[simp] theorem e109_10 (fr : Fr) (st : St) : runI cfg 109 n109_10 fr st = ob (lookF fr 7) fun v => gC v none (runI cfg 109 n109_11 fr st) (runI cfg 109 n109_12 fr st) := run_cond (x := .tmp 7) (by kernel_rfl)
@[simp] theorem e109_11 (fr : Fr) (st : St) : runI cfg 109 n109_11 fr st = some (.normal, fr, st) := run_skip (by kernel_rfl)
@[simp] theorem e109_12 (fr : Fr) (st : St) : runI cfg 109 n109_12 fr st = some (.exit 0, fr, st) := run_exit (by kernel_rfl)
@[simp] theorem e109_13 (fr : Fr) (st : St) : runI cfg 109 n109_13 fr st = thenR cfg 109 n109_24 (runI cfg 109 n109_14 fr st) := run_seq (by kernel_rfl)
@[simp] theorem e109_14 (fr : Fr) (st : St) : runI cfg 109 n109_14 fr st = blockI 1 (runI cfg 109 n109_15 fr st) := run_block (by kernel_rfl)
@[simp] theorem e109_15 (fr : Fr) (st : St) : runI cfg 109 n109_15 fr st = thenR cfg 109 n109_17 (runI cfg 109 n109_16 fr st) := run_seq (by kernel_rfl)
@[simp] theorem e109_16 (fr : Fr) (st : St) : runI cfg 109 n109_16 fr st = ob (lookF fr 0) fun x0 => ob (lookF fr 5) fun x5 => ob (lookF fr 6) fun x6 => (some (.normal, [(0, x0), (3, x6), (5, x5), (6, x6)], st) : Res) :=
  (runI_reg (c := n109_16) (id := 3) (ops := opsOf n109_16) (draw := false) (by kernel_rfl)).trans (by kernel_rfl)
@[simp] theorem e109_17 (fr : Fr) (st : St) : runI cfg 109 n109_17 fr st = thenR cfg 109 n109_19 (runI cfg 109 n109_18 fr st) := run_seq (by kernel_rfl)
@[simp] theorem e109_18 (fr : Fr) (st : St) : runI cfg 109 n109_18 fr st = ob (lookF fr 0) fun x0 => ob (lookF fr 3) fun x3 => ob (lookF fr 5) fun x5 => ob (lookF fr 6) fun x6 => ob (indexV cfg.P (opAt n109_18 2) 9 x0 x3) fun x11 => ob (binV cfg.P (opAt n109_18 3) .lss 5 (.int .u8) x11 (.d (.int .u8 32))) fun x12 => gC x12 (none) ((some (.normal, [(0, x0), (5, x5), (6, x6), (24, tt)], st) : Res)) (ob (indexV cfg.P (opAt n109_18 7) 9 x0 x3) fun x16 => ob (binV cfg.P (opAt n109_18 8) .gtr 5 (.int .u8) x16 (.d (.int .u8 126))) fun x17 => gC x17 (none) ((some (.normal, [(0, x0), (5, x5), (6, x6), (24, tt)], st) : Res)) (ob (indexV cfg.P (opAt n109_18 13) 9 x0 x3) fun x22 => ob (binV cfg.P (opAt n109_18 14) .eql 5 (.int .u8) x22 (.d (.int .u8 34))) fun x23 => (some (.normal, [(0, x0), (5, x5), (6, x6), (24, x23)], st) : Res))) :=
  (runI_reg (c := n109_18) (id := 4) (ops := opsOf n109_18) (draw := false) (by kernel_rfl)).trans (by kernel_rfl)
@[simp] theorem e109_19 (fr : Fr) (st : St) : runI cfg 109 n109_19 fr st = ob (lookF fr 24) fun v => gC v none (runI cfg 109 n109_20 fr st) (runI cfg 109 n109_23 fr st) := run_cond (x := .tmp 24) (by kernel_rfl)
@[simp] theorem e109_20 (fr : Fr) (st : St) : runI cfg 109 n109_20 fr st = thenR cfg 109 n109_22 (runI cfg 109 n109_21 fr st) := run_seq (by kernel_rfl)
@[simp] theorem e109_21 (fr : Fr) (st : St) : runI cfg 109 n109_21 fr st = (some (.normal, [(2, ff)], st) : Res) :=
  (runI_reg (c := n109_21) (id := 5) (ops := opsOf n109_21) (draw := false) (by kernel_rfl)).trans (by kernel_rfl)
@[simp] theorem e109_22 (fr : Fr) (st : St) : runI cfg 109 n109_22 fr st = some (.ret, fr, st) := run_ret (by kernel_rfl)
@[simp] theorem e109_23 (fr : Fr) (st : St) : runI cfg 109 n109_23 fr st = some (.normal, fr, st) := run_skip (by kernel_rfl)
@[simp] theorem e109_24 (fr : Fr) (st : St) : runI cfg 109 n109_24 fr st = ob (lookF fr 0) fun x0 => ob (lookF fr 5) fun x5 => ob (lookF fr 6) fun x6 => ob (binV cfg.P (opAt n109_24 0) .add 3 (.int .i64) x6 (.d (.int .i64 1))) fun x25 => (some (.normal, [(0, x0), (5, x5), (6, x25)], st) : Res) :=
  (runI_reg (c := n109_24) (id := 6) (ops := opsOf n109_24) (draw := false) (by kernel_rfl)).trans (by kernel_rfl)
@[simp] theorem e109_25 (fr : Fr) (st : St) : runI cfg 109 n109_25 fr st = thenR cfg 109 n109_27 (runI cfg 109 n109_26 fr st) := run_seq (by kernel_rfl)
@[simp] theorem e109_26 (fr : Fr) (st : St) : runI cfg 109 n109_26 fr st = ob (lookF fr 0) fun x0 => ob (lenV .string st.H x0) fun x27 => ob (binV cfg.P (opAt n109_26 2) .leq 3 (.int .i64) x27 (.d (.int .i64 64))) fun x28 => (some (.normal, [(2, x28)], st) : Res) :=
  (runI_reg (c := n109_26) (id := 7) (ops := opsOf n109_26) (draw := false) (by kernel_rfl)).trans (by kernel_rfl)
@[simp] theorem e109_27 (fr : Fr) (st : St) : runI cfg 109 n109_27 fr st = some (.ret, fr, st) := run_ret (by kernel_rfl)
@[simp] theorem z109 (fr : Fr) (st : St) : endR cfg Try.f109 (some (.ret, fr, st)) = ob (lookF fr 2) fun x0 => some (x0, st) := end_r.trans (by kernel_rfl)
@[simp] theorem w109 (fr : Fr) (st : St) : endR cfg Try.f109 (some (.normal, fr, st)) = ob (lookF fr 2) fun x0 => some (x0, st) := end_n.trans (by kernel_rfl)
theorem c109 (ts : List T) (st : St) : callI cfg 109 ts st = ob (closeAll ts) fun ts => backR st (endR cfg Try.f109 (runI cfg 109 n109_0 (enumF 0 ts) ⟨[], []⟩)) := call_pure (by kernel_rfl) (by kernel_rfl) (by kernel_rfl) (by kernel_rfl)
/-! 110: fettle.acts.top -/
noncomputable def n110_0 : Code := codeB Try.f110
noncomputable def n110_1 : Code := kid n110_0 false
noncomputable def n110_2 : Code := kid n110_0 true
noncomputable def n110_3 : Code := kid n110_2 false
noncomputable def n110_4 : Code := kid n110_3 false
noncomputable def n110_5 : Code := kid n110_3 true
noncomputable def n110_6 : Code := kid n110_5 false
noncomputable def n110_7 : Code := kid n110_6 false
noncomputable def n110_8 : Code := kid n110_6 true
noncomputable def n110_9 : Code := kid n110_8 false
noncomputable def n110_10 : Code := kid n110_9 false
noncomputable def n110_11 : Code := kid n110_9 true
noncomputable def n110_12 : Code := kid n110_8 true
noncomputable def n110_13 : Code := kid n110_12 false
noncomputable def n110_14 : Code := kid n110_13 false
noncomputable def n110_15 : Code := kid n110_13 true
noncomputable def n110_16 : Code := kid n110_15 false
noncomputable def n110_17 : Code := kid n110_15 true
noncomputable def n110_18 : Code := kid n110_12 true
noncomputable def n110_19 : Code := kid n110_18 false
noncomputable def n110_20 : Code := kid n110_19 false
noncomputable def n110_21 : Code := kid n110_19 true
noncomputable def n110_22 : Code := kid n110_18 true
noncomputable def n110_23 : Code := kid n110_2 true
noncomputable def n110_24 : Code := kid n110_23 false
noncomputable def n110_25 : Code := kid n110_23 true
@[simp] theorem e110_0 (fr : Fr) (st : St) : runI cfg 110 n110_0 fr st = thenR cfg 110 n110_2 (runI cfg 110 n110_1 fr st) := run_seq (by kernel_rfl)
@[simp] theorem e110_1 (fr : Fr) (st : St) : runI cfg 110 n110_1 fr st = ob (lookF fr 0) fun x0 => (some (.normal, [(0, x0)], st) : Res) :=
  (runI_reg (c := n110_1) (id := 0) (ops := opsOf n110_1) (draw := false) (by kernel_rfl)).trans (by kernel_rfl)
@[simp] theorem e110_2 (fr : Fr) (st : St) : runI cfg 110 n110_2 fr st = thenR cfg 110 n110_23 (runI cfg 110 n110_3 fr st) := run_seq (by kernel_rfl)
@[simp] theorem e110_3 (fr : Fr) (st : St) : runI cfg 110 n110_3 fr st = thenR cfg 110 n110_5 (runI cfg 110 n110_4 fr st) := run_seq (by kernel_rfl)
@[simp] theorem e110_4 (fr : Fr) (st : St) : runI cfg 110 n110_4 fr st = ob (lookF fr 0) fun x0 => (some (.normal, [(3, x0)], st) : Res) :=
  (runI_reg (c := n110_4) (id := 1) (ops := opsOf n110_4) (draw := false) (by kernel_rfl)).trans (by kernel_rfl)
@[simp] theorem e110_5 (fr : Fr) (st : St) : runI cfg 110 n110_5 fr st = blockI 0 (runI cfg 110 n110_6 fr st) := run_block (by kernel_rfl)
@[simp] theorem e110_6 (fr : Fr) (st : St) : runI cfg 110 n110_6 fr st = thenR cfg 110 n110_8 (runI cfg 110 n110_7 fr st) := run_seq (by kernel_rfl)
@[simp] theorem e110_7 (fr : Fr) (st : St) : runI cfg 110 n110_7 fr st = ob (lookF fr 3) fun x3 => ob (binV cfg.P (opAt n110_7 0) .eql 3 (.int .i64) x3 (.d (.int .i64 2))) fun x5 => (some (.normal, [(3, x3), (4, x5)], st) : Res) :=
  (runI_reg (c := n110_7) (id := 2) (ops := opsOf n110_7) (draw := false) (by kernel_rfl)).trans (by kernel_rfl)
@[simp] theorem e110_8 (fr : Fr) (st : St) : runI cfg 110 n110_8 fr st = ob (lookF fr 4) fun v => gC v none (runI cfg 110 n110_9 fr st) (runI cfg 110 n110_12 fr st) := run_cond (x := .tmp 4) (by kernel_rfl)
@[simp] theorem e110_9 (fr : Fr) (st : St) : runI cfg 110 n110_9 fr st = thenR cfg 110 n110_11 (runI cfg 110 n110_10 fr st) := run_seq (by kernel_rfl)
@[simp] theorem e110_10 (fr : Fr) (st : St) : runI cfg 110 n110_10 fr st = (some (.normal, [(2, (.d (.int .i64 15)))], st) : Res) :=
  (runI_reg (c := n110_10) (id := 3) (ops := opsOf n110_10) (draw := false) (by kernel_rfl)).trans (by kernel_rfl)
@[simp] theorem e110_11 (fr : Fr) (st : St) : runI cfg 110 n110_11 fr st = some (.ret, fr, st) := run_ret (by kernel_rfl)
@[simp] theorem e110_12 (fr : Fr) (st : St) : runI cfg 110 n110_12 fr st = thenR cfg 110 n110_18 (runI cfg 110 n110_13 fr st) := run_seq (by kernel_rfl)
@[simp] theorem e110_13 (fr : Fr) (st : St) : runI cfg 110 n110_13 fr st = thenR cfg 110 n110_15 (runI cfg 110 n110_14 fr st) := run_seq (by kernel_rfl)
@[simp] theorem e110_14 (fr : Fr) (st : St) : runI cfg 110 n110_14 fr st = ob (lookF fr 3) fun x3 => ob (binV cfg.P (opAt n110_14 0) .eql 3 (.int .i64) x3 (.d (.int .i64 7))) fun x7 => (some (.normal, [(3, x3), (6, x7)], st) : Res) :=
  (runI_reg (c := n110_14) (id := 4) (ops := opsOf n110_14) (draw := false) (by kernel_rfl)).trans (by kernel_rfl)
@[simp] theorem e110_15 (fr : Fr) (st : St) : runI cfg 110 n110_15 fr st = ob (lookF fr 6) fun v => gC v none (runI cfg 110 n110_16 fr st) (runI cfg 110 n110_17 fr st) := run_cond (x := .tmp 6) (by kernel_rfl)
@[simp] theorem e110_16 (fr : Fr) (st : St) : runI cfg 110 n110_16 fr st = some (.normal, fr, st) := run_skip (by kernel_rfl)
@[simp] theorem e110_17 (fr : Fr) (st : St) : runI cfg 110 n110_17 fr st = ob (lookF fr 3) fun x3 => ob (binV cfg.P (opAt n110_17 0) .eql 3 (.int .i64) x3 (.d (.int .i64 8))) fun x8 => (some (.normal, [(6, x8)], st) : Res) :=
  (runI_reg (c := n110_17) (id := 5) (ops := opsOf n110_17) (draw := false) (by kernel_rfl)).trans (by kernel_rfl)
@[simp] theorem e110_18 (fr : Fr) (st : St) : runI cfg 110 n110_18 fr st = ob (lookF fr 6) fun v => gC v none (runI cfg 110 n110_19 fr st) (runI cfg 110 n110_22 fr st) := run_cond (x := .tmp 6) (by kernel_rfl)
@[simp] theorem e110_19 (fr : Fr) (st : St) : runI cfg 110 n110_19 fr st = thenR cfg 110 n110_21 (runI cfg 110 n110_20 fr st) := run_seq (by kernel_rfl)
@[simp] theorem e110_20 (fr : Fr) (st : St) : runI cfg 110 n110_20 fr st = (some (.normal, [(2, (.d (.int .i64 999)))], st) : Res) :=
  (runI_reg (c := n110_20) (id := 6) (ops := opsOf n110_20) (draw := false) (by kernel_rfl)).trans (by kernel_rfl)
@[simp] theorem e110_21 (fr : Fr) (st : St) : runI cfg 110 n110_21 fr st = some (.ret, fr, st) := run_ret (by kernel_rfl)
@[simp] theorem e110_22 (fr : Fr) (st : St) : runI cfg 110 n110_22 fr st = some (.normal, fr, st) := run_skip (by kernel_rfl)
@[simp] theorem e110_23 (fr : Fr) (st : St) : runI cfg 110 n110_23 fr st = thenR cfg 110 n110_25 (runI cfg 110 n110_24 fr st) := run_seq (by kernel_rfl)
@[simp] theorem e110_24 (fr : Fr) (st : St) : runI cfg 110 n110_24 fr st = (some (.normal, [(2, (.d (.int .i64 (-1))))], st) : Res) :=
  (runI_reg (c := n110_24) (id := 7) (ops := opsOf n110_24) (draw := false) (by kernel_rfl)).trans (by kernel_rfl)
@[simp] theorem e110_25 (fr : Fr) (st : St) : runI cfg 110 n110_25 fr st = some (.ret, fr, st) := run_ret (by kernel_rfl)
@[simp] theorem z110 (fr : Fr) (st : St) : endR cfg Try.f110 (some (.ret, fr, st)) = ob (lookF fr 2) fun x0 => some (x0, st) := end_r.trans (by kernel_rfl)
@[simp] theorem w110 (fr : Fr) (st : St) : endR cfg Try.f110 (some (.normal, fr, st)) = ob (lookF fr 2) fun x0 => some (x0, st) := end_n.trans (by kernel_rfl)
theorem c110 (ts : List T) (st : St) : callI cfg 110 ts st = ob (closeAll ts) fun ts => backR st (endR cfg Try.f110 (runI cfg 110 n110_0 (enumF 0 ts) ⟨[], []⟩)) := call_pure (by kernel_rfl) (by kernel_rfl) (by kernel_rfl) (by kernel_rfl)
end Go.Proofs.CfgA
end
