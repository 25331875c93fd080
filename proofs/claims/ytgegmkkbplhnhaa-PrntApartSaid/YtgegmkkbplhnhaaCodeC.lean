/- The code of the functions, node by node (written by a program of mine). No conditions. -/
import Derived.Test.YtgegmkkbplhnhaaCodeA
section
set_option linter.unusedVariables false
set_option maxRecDepth 100000
namespace Go.Proofs.CfgA
open Go Go.Tm Go.Proofs

/-! 53: fettle.fettleref1.Num -/
noncomputable def n53_0 : Code := codeB Try.f53
noncomputable def n53_1 : Code := kid n53_0 false
noncomputable def n53_2 : Code := kid n53_0 true
noncomputable def n53_3 : Code := kid n53_2 false
noncomputable def n53_4 : Code := kid n53_2 true
noncomputable def n53_5 : Code := kid n53_4 false
noncomputable def n53_6 : Code := kid n53_4 true
noncomputable def n53_7 : Code := kid n53_6 false
noncomputable def n53_8 : Code := kid n53_7 false
noncomputable def n53_9 : Code := kid n53_7 true
noncomputable def n53_10 : Code := kid n53_9 false
noncomputable def n53_11 : Code := kid n53_10 false
noncomputable def n53_12 : Code := kid n53_11 false
noncomputable def n53_13 : Code := kid n53_12 false
noncomputable def n53_14 : Code := kid n53_12 true
noncomputable def n53_15 : Code := kid n53_14 false
noncomputable def n53_16 : Code := kid n53_14 true
noncomputable def n53_17 : Code := kid n53_11 true
noncomputable def n53_18 : Code := kid n53_17 false
noncomputable def n53_19 : Code := kid n53_18 false
noncomputable def n53_20 : Code := kid n53_17 true
noncomputable def n53_21 : Code := kid n53_6 true
noncomputable def n53_22 : Code := kid n53_21 false
noncomputable def n53_23 : Code := kid n53_21 true
@[simp] theorem e53_0 (fr : Fr) (st : St) : runI cfg 53 n53_0 fr st = thenR cfg 53 n53_2 (runI cfg 53 n53_1 fr st) := run_seq (by kernel_rfl)
@[simp] theorem e53_1 (fr : Fr) (st : St) : runI cfg 53 n53_1 fr st = ob (lookF fr 0) fun x0 => ob (lookF fr 1) fun x1 => (some (.normal, [(0, x0), (1, x1)], st) : Res) :=
  (runI_reg (c := n53_1) (id := 0) (ops := opsOf n53_1) (draw := false) (by kernel_rfl)).trans (by kernel_rfl)
@[simp] theorem e53_2 (fr : Fr) (st : St) : runI cfg 53 n53_2 fr st = thenR cfg 53 n53_4 (runI cfg 53 n53_3 fr st) := run_seq (by kernel_rfl)
@[simp] theorem e53_3 (fr : Fr) (st : St) : runI cfg 53 n53_3 fr st = ob (lookF fr 0) fun x0 => ob (lookF fr 1) fun x1 => ob (fillA 1 (repeatL [(.d (.int .u8 0))] 0) []) fun c0 => ob (T.toDs c0) fun d0 => ob (appV 1 1 st (.sl false 0 d0 .lit) x0) fun a2 => (some (.normal, [(1, x1), (5, a2.1)], ⟨st.H, a2.2⟩) : Res) :=
  (runI_reg (c := n53_3) (id := 1) (ops := opsOf n53_3) (draw := false) (by kernel_rfl)).trans (by kernel_rfl)
@[simp] theorem e53_4 (fr : Fr) (st : St) : runI cfg 53 n53_4 fr st = thenR cfg 53 n53_6 (runI cfg 53 n53_5 fr st) := run_seq (by kernel_rfl)
@[simp] theorem e53_5 (fr : Fr) (st : St) : runI cfg 53 n53_5 fr st = ob (lookF fr 1) fun x1 => ob (lookF fr 5) fun x5 => ob (minmaxV true x1 (.d (.int .i64 0))) fun x11 => ob (minmaxV false x11 (.d (.int .i64 1099511627776))) fun x12 => (some (.normal, [(1, x12), (5, x5)], st) : Res) :=
  (runI_reg (c := n53_5) (id := 2) (ops := opsOf n53_5) (draw := false) (by kernel_rfl)).trans (by kernel_rfl)
@[simp] theorem e53_6 (fr : Fr) (st : St) : runI cfg 53 n53_6 fr st = thenR cfg 53 n53_21 (runI cfg 53 n53_7 fr st) := run_seq (by kernel_rfl)
@[simp] theorem e53_7 (fr : Fr) (st : St) : runI cfg 53 n53_7 fr st = thenR cfg 53 n53_9 (runI cfg 53 n53_8 fr st) := run_seq (by kernel_rfl)
@[simp] theorem e53_8 (fr : Fr) (st : St) : runI cfg 53 n53_8 fr st = ob (lookF fr 1) fun x1 => ob (lookF fr 5) fun x5 => (some (.normal, [(1, x1), (5, x5), (6, (.d (.int .i64 5)))], st) : Res) :=
  (runI_reg (c := n53_8) (id := 3) (ops := opsOf n53_8) (draw := false) (by kernel_rfl)).trans (by kernel_rfl)
@[simp] theorem e53_9 (fr : Fr) (st : St) : runI cfg 53 n53_9 fr st = blockI 0 (runI cfg 53 n53_10 fr st) := run_block (by kernel_rfl)
theorem l53_10 (fr : Fr) (st : St) : runI cfg 53 n53_10 fr st = loopR cfg 53 n53_10 st.H.length (runI cfg 53 n53_11 fr st) := run_loop (by kernel_rfl)
@[simp] theorem e53_11 (fr : Fr) (st : St) : runI cfg 53 n53_11 fr st = thenR cfg 53 n53_17 (runI cfg 53 n53_12 fr st) := run_seq (by kernel_rfl)
@[simp] theorem e53_12 (fr : Fr) (st : St) : runI cfg 53 n53_12 fr st = thenR cfg 53 n53_14 (runI cfg 53 n53_13 fr st) := run_seq (by kernel_rfl)
@[simp] theorem e53_13 (fr : Fr) (st : St) : runI cfg 53 n53_13 fr st = ob (lookF fr 1) fun x1 => ob (lookF fr 5) fun x5 => ob (lookF fr 6) fun x6 => ob (binV cfg.P (opAt n53_13 1) .geq 3 (.int .i64) x6 (.d (.int .i64 0))) fun x14 => (some (.normal, [(1, x1), (5, x5), (6, x6), (14, x14)], st) : Res) :=
  (runI_reg (c := n53_13) (id := 4) (ops := opsOf n53_13) (draw := false) (by kernel_rfl)).trans (by kernel_rfl)
@[simp] theorem e53_14 (fr : Fr) (st : St) : runI cfg 53 n53_14 fr st = ob (lookF fr 14) fun v => gC v none (runI cfg 53 n53_15 fr st) (runI cfg 53 n53_16 fr st) := run_cond (x := .tmp 14) (by kernel_rfl)
@[simp] theorem e53_15 (fr : Fr) (st : St) : runI cfg 53 n53_15 fr st = some (.normal, fr, st) := run_skip (by kernel_rfl)
@[simp] theorem e53_16 (fr : Fr) (st : St) : runI cfg 53 n53_16 fr st = some (.exit 0, fr, st) := run_exit (by kernel_rfl)
@[simp] theorem e53_17 (fr : Fr) (st : St) : runI cfg 53 n53_17 fr st = thenR cfg 53 n53_20 (runI cfg 53 n53_18 fr st) := run_seq (by kernel_rfl)
@[simp] theorem e53_18 (fr : Fr) (st : St) : runI cfg 53 n53_18 fr st = blockI 1 (runI cfg 53 n53_19 fr st) := run_block (by kernel_rfl)
@[simp] theorem e53_19 (fr : Fr) (st : St) : runI cfg 53 n53_19 fr st = ob (lookF fr 1) fun x1 => ob (lookF fr 5) fun x5 => ob (lookF fr 6) fun x6 => ob (binV cfg.P (opAt n53_19 3) .mul 3 (.int .i64) (.d (.int .i64 8)) x6) fun x20 => ob (convV cfg.P (opAt n53_19 4) false (some (.int .i64)) (some (.int .u64)) none none x20) fun x21 => ob (binV cfg.P (opAt n53_19 5) .shr 3 (.int .i64) x1 x21) fun x22 => ob (convV cfg.P (opAt n53_19 6) false (some (.int .i64)) (some (.int .u8)) none none x22) fun x23 => ob (fillA 1 (repeatL [(.d (.int .u8 0))] 1) [(0, x23)]) fun c7 => ob (T.toDs c7) fun d7 => ob (appV 1 1 st x5 (.sl false 1 d7 .lit)) fun a8 => (some (.normal, [(1, x1), (5, a8.1), (6, x6)], ⟨st.H, a8.2⟩) : Res) :=
  (runI_reg (c := n53_19) (id := 6) (ops := opsOf n53_19) (draw := false) (by kernel_rfl)).trans (by kernel_rfl)
@[simp] theorem e53_20 (fr : Fr) (st : St) : runI cfg 53 n53_20 fr st = ob (lookF fr 1) fun x1 => ob (lookF fr 5) fun x5 => ob (lookF fr 6) fun x6 => ob (binV cfg.P (opAt n53_20 1) .sub 3 (.int .i64) x6 (.d (.int .i64 1))) fun x16 => (some (.normal, [(1, x1), (5, x5), (6, x16)], st) : Res) :=
  (runI_reg (c := n53_20) (id := 5) (ops := opsOf n53_20) (draw := false) (by kernel_rfl)).trans (by kernel_rfl)
@[simp] theorem e53_21 (fr : Fr) (st : St) : runI cfg 53 n53_21 fr st = thenR cfg 53 n53_23 (runI cfg 53 n53_22 fr st) := run_seq (by kernel_rfl)
@[simp] theorem e53_22 (fr : Fr) (st : St) : runI cfg 53 n53_22 fr st = ob (lookF fr 5) fun x5 => (some (.normal, [(4, x5)], st) : Res) :=
  (runI_reg (c := n53_22) (id := 7) (ops := opsOf n53_22) (draw := false) (by kernel_rfl)).trans (by kernel_rfl)
@[simp] theorem e53_23 (fr : Fr) (st : St) : runI cfg 53 n53_23 fr st = some (.ret, fr, st) := run_ret (by kernel_rfl)
@[simp] theorem z53 (fr : Fr) (st : St) : endR cfg Try.f53 (some (.ret, fr, st)) = ob (lookF fr 4) fun x0 => some (x0, st) := end_r.trans (by kernel_rfl)
@[simp] theorem w53 (fr : Fr) (st : St) : endR cfg Try.f53 (some (.normal, fr, st)) = ob (lookF fr 4) fun x0 => some (x0, st) := end_n.trans (by kernel_rfl)
theorem c53 (ts : List T) (st : St) : callI cfg 53 ts st = ob (closeAll ts) fun ts => backR st (endR cfg Try.f53 (runI cfg 53 n53_0 (enumF 0 ts) ⟨[], []⟩)) := call_pure (by kernel_rfl) (by kernel_rfl) (by kernel_rfl) (by kernel_rfl)
/-! 54: fettle.fettleref1.Bytes -/
noncomputable def n54_0 : Code := codeB Try.f54
noncomputable def n54_1 : Code := kid n54_0 false
noncomputable def n54_2 : Code := kid n54_0 true
noncomputable def n54_3 : Code := kid n54_2 false
noncomputable def n54_4 : Code := kid n54_2 true
@[simp] theorem e54_0 (fr : Fr) (st : St) : runI cfg 54 n54_0 fr st = thenR cfg 54 n54_2 (runI cfg 54 n54_1 fr st) := run_seq (by kernel_rfl)
@[simp] theorem e54_1 (fr : Fr) (st : St) : runI cfg 54 n54_1 fr st = ob (lookF fr 0) fun x0 => ob (lookF fr 1) fun x1 => (some (.normal, [(0, x0), (1, x1)], st) : Res) :=
  (runI_reg (c := n54_1) (id := 0) (ops := opsOf n54_1) (draw := false) (by kernel_rfl)).trans (by kernel_rfl)
@[simp] theorem e54_2 (fr : Fr) (st : St) : runI cfg 54 n54_2 fr st = thenR cfg 54 n54_4 (runI cfg 54 n54_3 fr st) := run_seq (by kernel_rfl)
@[simp] theorem e54_3 (fr : Fr) (st : St) : runI cfg 54 n54_3 fr st = ob (lookF fr 0) fun x0 => ob (lookF fr 1) fun x1 => ob (lenV (.slice 5) st.H x1) fun x7 => ob (callI cfg 53 [x0, x7] st) fun r3 => ob (appV 1 1 r3.2 r3.1 x1) fun a5 => (some (.normal, [(4, a5.1)], ⟨r3.2.H, a5.2⟩) : Res) :=
  (runI_reg (c := n54_3) (id := 1) (ops := opsOf n54_3) (draw := false) (by kernel_rfl)).trans (by kernel_rfl)
@[simp] theorem e54_4 (fr : Fr) (st : St) : runI cfg 54 n54_4 fr st = some (.ret, fr, st) := run_ret (by kernel_rfl)
@[simp] theorem z54 (fr : Fr) (st : St) : endR cfg Try.f54 (some (.ret, fr, st)) = ob (lookF fr 4) fun x0 => some (x0, st) := end_r.trans (by kernel_rfl)
@[simp] theorem w54 (fr : Fr) (st : St) : endR cfg Try.f54 (some (.normal, fr, st)) = ob (lookF fr 4) fun x0 => some (x0, st) := end_n.trans (by kernel_rfl)
theorem c54 (ts : List T) (st : St) : callI cfg 54 ts st = ob (closeAll ts) fun ts => backR st (endR cfg Try.f54 (runI cfg 54 n54_0 (enumF 0 ts) ⟨[], []⟩)) := call_pure (by kernel_rfl) (by kernel_rfl) (by kernel_rfl) (by kernel_rfl)
/-! 55: fettle.fettleref4.ActBytes -/
noncomputable def n55_0 : Code := codeB Try.f55
noncomputable def n55_1 : Code := kid n55_0 false
noncomputable def n55_2 : Code := kid n55_0 true
noncomputable def n55_3 : Code := kid n55_2 false
noncomputable def n55_4 : Code := kid n55_2 true
noncomputable def n55_5 : Code := kid n55_4 false
noncomputable def n55_6 : Code := kid n55_5 false
noncomputable def n55_7 : Code := kid n55_5 true
noncomputable def n55_8 : Code := kid n55_7 false
noncomputable def n55_9 : Code := kid n55_8 false
noncomputable def n55_10 : Code := kid n55_9 false
noncomputable def n55_11 : Code := kid n55_10 false
noncomputable def n55_12 : Code := kid n55_10 true
noncomputable def n55_13 : Code := kid n55_12 false
noncomputable def n55_14 : Code := kid n55_12 true
noncomputable def n55_15 : Code := kid n55_9 true
noncomputable def n55_16 : Code := kid n55_15 false
noncomputable def n55_17 : Code := kid n55_16 false
noncomputable def n55_18 : Code := kid n55_15 true
noncomputable def n55_19 : Code := kid n55_4 true
noncomputable def n55_20 : Code := kid n55_19 false
noncomputable def n55_21 : Code := kid n55_19 true
@[simp] theorem e55_0 (fr : Fr) (st : St) : runI cfg 55 n55_0 fr st = thenR cfg 55 n55_2 (runI cfg 55 n55_1 fr st) := run_seq (by kernel_rfl)
@[simp] theorem e55_1 (fr : Fr) (st : St) : runI cfg 55 n55_1 fr st = ob (lookF fr 0) fun x0 => (some (.normal, [(0, x0)], st) : Res) :=
  (runI_reg (c := n55_1) (id := 0) (ops := opsOf n55_1) (draw := false) (by kernel_rfl)).trans (by kernel_rfl)
@[simp] theorem e55_2 (fr : Fr) (st : St) : runI cfg 55 n55_2 fr st = thenR cfg 55 n55_4 (runI cfg 55 n55_3 fr st) := run_seq (by kernel_rfl)
@[simp] theorem e55_3 (fr : Fr) (st : St) : runI cfg 55 n55_3 fr st = ob (lookF fr 0) fun x0 => ob (lenV (.slice 47) st.H x0) fun x6 => ob (callI cfg 53 [nilS, x6] st) fun r2 => (some (.normal, [(0, x0), (3, r2.1)], r2.2) : Res) :=
  (runI_reg (c := n55_3) (id := 1) (ops := opsOf n55_3) (draw := false) (by kernel_rfl)).trans (by kernel_rfl)
@[simp] theorem e55_4 (fr : Fr) (st : St) : runI cfg 55 n55_4 fr st = thenR cfg 55 n55_19 (runI cfg 55 n55_5 fr st) := run_seq (by kernel_rfl)
@[simp] theorem e55_5 (fr : Fr) (st : St) : runI cfg 55 n55_5 fr st = thenR cfg 55 n55_7 (runI cfg 55 n55_6 fr st) := run_seq (by kernel_rfl)
@[simp] theorem e55_6 (fr : Fr) (st : St) : runI cfg 55 n55_6 fr st = ob (lookF fr 0) fun x0 => ob (lookF fr 3) fun x3 => (some (.normal, [(0, x0), (3, x3), (4, (.d (.int .i64 0)))], st) : Res) :=
  (runI_reg (c := n55_6) (id := 2) (ops := opsOf n55_6) (draw := false) (by kernel_rfl)).trans (by kernel_rfl)
@[simp] theorem e55_7 (fr : Fr) (st : St) : runI cfg 55 n55_7 fr st = blockI 0 (runI cfg 55 n55_8 fr st) := run_block (by kernel_rfl)
theorem l55_8 (fr : Fr) (st : St) : runI cfg 55 n55_8 fr st = loopR cfg 55 n55_8 st.H.length (runI cfg 55 n55_9 fr st) := run_loop (by kernel_rfl)
@[simp] theorem e55_9 (fr : Fr) (st : St) : runI cfg 55 n55_9 fr st = thenR cfg 55 n55_15 (runI cfg 55 n55_10 fr st) := run_seq (by kernel_rfl)
@[simp] theorem e55_10 (fr : Fr) (st : St) : runI cfg 55 n55_10 fr st = thenR cfg 55 n55_12 (runI cfg 55 n55_11 fr st) := run_seq (by kernel_rfl)
@[simp] theorem e55_11 (fr : Fr) (st : St) : runI cfg 55 n55_11 fr st = ob (lookF fr 0) fun x0 => ob (lookF fr 3) fun x3 => ob (lookF fr 4) fun x4 => ob (lenV (.slice 47) st.H x0) fun x10 => ob (binV cfg.P (opAt n55_11 3) .lss 3 (.int .i64) x4 x10) fun x11 => (some (.normal, [(0, x0), (3, x3), (4, x4), (11, x11)], st) : Res) :=
  (runI_reg (c := n55_11) (id := 3) (ops := opsOf n55_11) (draw := false) (by kernel_rfl)).trans (by kernel_rfl)
@[simp] theorem e55_12 (fr : Fr) (st : St) : runI cfg 55 n55_12 fr st = ob (lookF fr 11) fun v => gC v none (runI cfg 55 n55_13 fr st) (runI cfg 55 n55_14 fr st) := run_cond (x := .tmp 11) (by kernel_rfl)
@[simp] theorem e55_13 (fr : Fr) (st : St) : runI cfg 55 n55_13 fr st = some (.normal, fr, st) := run_skip (by kernel_rfl)
@[simp] theorem e55_14 (fr : Fr) (st : St) : runI cfg 55 n55_14 fr st = some (.exit 0, fr, st) := run_exit (by kernel_rfl)
@[simp] theorem e55_15 (fr : Fr) (st : St) : runI cfg 55 n55_15 fr st = thenR cfg 55 n55_18 (runI cfg 55 n55_16 fr st) := run_seq (by kernel_rfl)
@[simp] theorem e55_16 (fr : Fr) (st : St) : runI cfg 55 n55_16 fr st = blockI 1 (runI cfg 55 n55_17 fr st) := run_block (by kernel_rfl)
@[simp] theorem e55_17 (fr : Fr) (st : St) : runI cfg 55 n55_17 fr st = ob (lookF fr 0) fun x0 => ob (lookF fr 3) fun x3 => ob (lookF fr 4) fun x4 => ob (ixV 3 x0 x4) fun x17 => ob (addrV 0 x17) fun x18 => ob (loadV 1 false st.H x18) fun x19 => ob (callI cfg 53 [x3, x19] st) fun r6 => ob (ixV 3 x0 x4) fun x23 => ob (addrV 1 x23) fun x24 => ob (loadV 1 false r6.2.H x24) fun x25 => ob (callI cfg 53 [r6.1, x25] r6.2) fun r12 => ob (ixV 3 x0 x4) fun x29 => ob (addrV 2 x29) fun x30 => ob (loadV 1 false r12.2.H x30) fun x31 => ob (convV cfg.P (opAt n55_17 18) false (some .string) (some (.slice 5)) none (some (.int .u8)) x31) fun x32 => ob (callI cfg 54 [r12.1, x32] r12.2) fun r19 => (some (.normal, [(0, x0), (3, r19.1), (4, x4)], r19.2) : Res) :=
  (runI_reg (c := n55_17) (id := 5) (ops := opsOf n55_17) (draw := true) (by kernel_rfl)).trans (by kernel_rfl)
@[simp] theorem e55_18 (fr : Fr) (st : St) : runI cfg 55 n55_18 fr st = ob (lookF fr 0) fun x0 => ob (lookF fr 3) fun x3 => ob (lookF fr 4) fun x4 => ob (binV cfg.P (opAt n55_18 1) .add 3 (.int .i64) x4 (.d (.int .i64 1))) fun x13 => (some (.normal, [(0, x0), (3, x3), (4, x13)], st) : Res) :=
  (runI_reg (c := n55_18) (id := 4) (ops := opsOf n55_18) (draw := false) (by kernel_rfl)).trans (by kernel_rfl)
@[simp] theorem e55_19 (fr : Fr) (st : St) : runI cfg 55 n55_19 fr st = thenR cfg 55 n55_21 (runI cfg 55 n55_20 fr st) := run_seq (by kernel_rfl)
@[simp] theorem e55_20 (fr : Fr) (st : St) : runI cfg 55 n55_20 fr st = ob (lookF fr 3) fun x3 => (some (.normal, [(2, x3)], st) : Res) :=
  (runI_reg (c := n55_20) (id := 6) (ops := opsOf n55_20) (draw := false) (by kernel_rfl)).trans (by kernel_rfl)
@[simp] theorem e55_21 (fr : Fr) (st : St) : runI cfg 55 n55_21 fr st = some (.ret, fr, st) := run_ret (by kernel_rfl)
@[simp] theorem z55 (fr : Fr) (st : St) : endR cfg Try.f55 (some (.ret, fr, st)) = ob (lookF fr 2) fun x0 => some (x0, st) := end_r.trans (by kernel_rfl)
@[simp] theorem w55 (fr : Fr) (st : St) : endR cfg Try.f55 (some (.normal, fr, st)) = ob (lookF fr 2) fun x0 => some (x0, st) := end_n.trans (by kernel_rfl)
theorem c55 (ts : List T) (st : St) : callI cfg 55 ts st = ob (closeAll ts) fun ts => backR st (endR cfg Try.f55 (runI cfg 55 n55_0 (enumF 0 ts) ⟨[], []⟩)) := call_pure (by kernel_rfl) (by kernel_rfl) (by kernel_rfl) (by kernel_rfl)
/-! 56: fettle.fettleref10.act -/
noncomputable def n56_0 : Code := codeB Try.f56
noncomputable def n56_1 : Code := kid n56_0 false
noncomputable def n56_2 : Code := kid n56_0 true
noncomputable def n56_3 : Code := kid n56_2 false
noncomputable def n56_4 : Code := kid n56_2 true
noncomputable def n56_5 : Code := kid n56_4 false
noncomputable def n56_6 : Code := kid n56_4 true
noncomputable def n56_7 : Code := kid n56_6 false
noncomputable def n56_8 : Code := kid n56_7 false
noncomputable def n56_9 : Code := kid n56_7 true
noncomputable def n56_10 : Code := kid n56_9 false
noncomputable def n56_11 : Code := kid n56_10 false
noncomputable def n56_12 : Code := kid n56_11 false
noncomputable def n56_13 : Code := kid n56_12 false
noncomputable def n56_14 : Code := kid n56_12 true
noncomputable def n56_15 : Code := kid n56_14 false
noncomputable def n56_16 : Code := kid n56_14 true
noncomputable def n56_17 : Code := kid n56_11 true
noncomputable def n56_18 : Code := kid n56_17 false
noncomputable def n56_19 : Code := kid n56_18 false
noncomputable def n56_20 : Code := kid n56_19 false
noncomputable def n56_21 : Code := kid n56_19 true
noncomputable def n56_22 : Code := kid n56_21 false
noncomputable def n56_23 : Code := kid n56_21 true
noncomputable def n56_24 : Code := kid n56_17 true
noncomputable def n56_25 : Code := kid n56_6 true
noncomputable def n56_26 : Code := kid n56_25 false
noncomputable def n56_27 : Code := kid n56_25 true
@[simp] theorem e56_0 (fr : Fr) (st : St) : runI cfg 56 n56_0 fr st = thenR cfg 56 n56_2 (runI cfg 56 n56_1 fr st) := run_seq (by kernel_rfl)
@[simp] theorem e56_1 (fr : Fr) (st : St) : runI cfg 56 n56_1 fr st = ob (lookF fr 0) fun x0 => (some (.normal, [(0, x0)], st) : Res) :=
  (runI_reg (c := n56_1) (id := 0) (ops := opsOf n56_1) (draw := false) (by kernel_rfl)).trans (by kernel_rfl)
@[simp] theorem e56_2 (fr : Fr) (st : St) : runI cfg 56 n56_2 fr st = thenR cfg 56 n56_4 (runI cfg 56 n56_3 fr st) := run_seq (by kernel_rfl)
@[simp] theorem e56_3 (fr : Fr) (st : St) : runI cfg 56 n56_3 fr st = ob (lookF fr 0) fun x0 => ob (fillS [(0, 1), (1, 1)] [nilS, ff] [(0, x0)]) fun c1 => gt ((T.cells (.agg c1)).all T.one = true) ((some (.normal, [(4, (.ptr st.H.length 0))], ⟨(st.H ++ [.cells (T.cells (.agg c1))]), st.E⟩) : Res)) :=
  (runI_reg (c := n56_3) (id := 1) (ops := opsOf n56_3) (draw := false) (by kernel_rfl)).trans (by kernel_rfl)
@[simp] theorem e56_4 (fr : Fr) (st : St) : runI cfg 56 n56_4 fr st = thenR cfg 56 n56_6 (runI cfg 56 n56_5 fr st) := run_seq (by kernel_rfl)
@[simp] theorem e56_5 (fr : Fr) (st : St) : runI cfg 56 n56_5 fr st = ob (lookF fr 4) fun x4 => (some (.normal, [(4, x4), (5, nilS)], st) : Res) :=
  (runI_reg (c := n56_5) (id := 2) (ops := opsOf n56_5) (draw := false) (by kernel_rfl)).trans (by kernel_rfl)
@[simp] theorem e56_6 (fr : Fr) (st : St) : runI cfg 56 n56_6 fr st = thenR cfg 56 n56_25 (runI cfg 56 n56_7 fr st) := run_seq (by kernel_rfl)
@[simp] theorem e56_7 (fr : Fr) (st : St) : runI cfg 56 n56_7 fr st = thenR cfg 56 n56_9 (runI cfg 56 n56_8 fr st) := run_seq (by kernel_rfl)
@[simp] theorem e56_8 (fr : Fr) (st : St) : runI cfg 56 n56_8 fr st = ob (lookF fr 4) fun x4 => ob (lookF fr 5) fun x5 => ob (callI cfg 58 [x4, (.d (.int .i64 8))] st) fun r1 => (some (.normal, [(4, x4), (5, x5), (6, r1.1)], r1.2) : Res) :=
  (runI_reg (c := n56_8) (id := 3) (ops := opsOf n56_8) (draw := false) (by kernel_rfl)).trans (by kernel_rfl)
@[simp] theorem e56_9 (fr : Fr) (st : St) : runI cfg 56 n56_9 fr st = blockI 0 (runI cfg 56 n56_10 fr st) := run_block (by kernel_rfl)
theorem l56_10 (fr : Fr) (st : St) : runI cfg 56 n56_10 fr st = loopR cfg 56 n56_10 st.H.length (runI cfg 56 n56_11 fr st) := run_loop (by kernel_rfl)
@[simp] theorem e56_11 (fr : Fr) (st : St) : runI cfg 56 n56_11 fr st = thenR cfg 56 n56_17 (runI cfg 56 n56_12 fr st) := run_seq (by kernel_rfl)
@[simp] theorem e56_12 (fr : Fr) (st : St) : runI cfg 56 n56_12 fr st = thenR cfg 56 n56_14 (runI cfg 56 n56_13 fr st) := run_seq (by kernel_rfl)
@[simp] theorem e56_13 (fr : Fr) (st : St) : runI cfg 56 n56_13 fr st = ob (lookF fr 4) fun x4 => ob (lookF fr 5) fun x5 => ob (lookF fr 6) fun x6 => ob (binV cfg.P (opAt n56_13 1) .gtr 3 (.int .i64) x6 (.d (.int .i64 0))) fun x14 => (some (.normal, [(4, x4), (5, x5), (6, x6), (14, x14)], st) : Res) :=
  (runI_reg (c := n56_13) (id := 4) (ops := opsOf n56_13) (draw := false) (by kernel_rfl)).trans (by kernel_rfl)
@[simp] theorem e56_14 (fr : Fr) (st : St) : runI cfg 56 n56_14 fr st = ob (lookF fr 14) fun v => gC v none (runI cfg 56 n56_15 fr st) (runI cfg 56 n56_16 fr st) := run_cond (x := .tmp 14) (by kernel_rfl)
@[simp] theorem e56_15 (fr : Fr) (st : St) : runI cfg 56 n56_15 fr st = some (.normal, fr, st) := run_skip (by kernel_rfl)
@[simp] theorem e56_16 (fr : Fr) (st : St) : runI cfg 56 n56_16 fr st = some (.exit 0, fr, st) := run_exit (by kernel_rfl)
@[simp] theorem e56_17 (fr : Fr) (st : St) : runI cfg 56 n56_17 fr st = thenR cfg 56 n56_24 (runI cfg 56 n56_18 fr st) := run_seq (by kernel_rfl)
@[simp] theorem e56_18 (fr : Fr) (st : St) : runI cfg 56 n56_18 fr st = blockI 1 (runI cfg 56 n56_19 fr st) := run_block (by kernel_rfl)
@[simp] theorem e56_19 (fr : Fr) (st : St) : runI cfg 56 n56_19 fr st = thenR cfg 56 n56_21 (runI cfg 56 n56_20 fr st) := run_seq (by kernel_rfl)
@[simp] theorem e56_20 (fr : Fr) (st : St) : runI cfg 56 n56_20 fr st = ob (lookF fr 4) fun x4 => ob (lookF fr 5) fun x5 => ob (lookF fr 6) fun x6 => ob (callI cfg 58 [x4, (.d (.int .i64 11))] st) fun r1 => ob (callI cfg 58 [x4, (.d (.int .i64 999))] r1.2) fun r3 => ob (fillS [(0, 1), (1, 1), (2, 1)] [(.d (.int .i64 0)), (.d (.int .i64 0)), (.d (.string ByteArray.empty))] [(0, r1.1), (1, r3.1)]) fun c4 => ob (storeV 3 (r3.2.H ++ [.cells [(.d (.int .i64 0)), (.d (.int .i64 0)), (.d (.string ByteArray.empty))]]) (.ptr r3.2.H.length 0) (.agg c4)) fun h6 => (some (.normal, [(4, x4), (5, x5), (6, x6), (7, (.ptr r3.2.H.length 0))], ⟨h6, r3.2.E⟩) : Res) :=
  (runI_reg (c := n56_20) (id := 6) (ops := opsOf n56_20) (draw := false) (by kernel_rfl)).trans (by kernel_rfl)
@[simp] theorem e56_21 (fr : Fr) (st : St) : runI cfg 56 n56_21 fr st = thenR cfg 56 n56_23 (runI cfg 56 n56_22 fr st) := run_seq (by kernel_rfl)
@[simp] theorem e56_22 (fr : Fr) (st : St) : runI cfg 56 n56_22 fr st = ob (lookF fr 4) fun x4 => ob (lookF fr 5) fun x5 => ob (lookF fr 6) fun x6 => ob (lookF fr 7) fun x7 => ob (callI cfg 57 [x4, (.d (.int .i64 64))] st) fun r1 => ob (convV cfg.P (opAt n56_22 2) false (some (.slice 5)) (some .string) (some (.int .u8)) none r1.1) fun x24 => ob (addrV 2 x7) fun x25 => ob (storeV 1 r1.2.H x25 x24) fun h4 => (some (.normal, [(4, x4), (5, x5), (6, x6), (7, x7)], ⟨h4, r1.2.E⟩) : Res) :=
  (runI_reg (c := n56_22) (id := 7) (ops := opsOf n56_22) (draw := false) (by kernel_rfl)).trans (by kernel_rfl)
@[simp] theorem e56_23 (fr : Fr) (st : St) : runI cfg 56 n56_23 fr st = ob (lookF fr 4) fun x4 => ob (lookF fr 5) fun x5 => ob (lookF fr 6) fun x6 => ob (lookF fr 7) fun x7 => ob (loadV 3 true st.H x7) fun x27 => ob (fillA 3 (repeatL [(.d (.int .i64 0)), (.d (.int .i64 0)), (.d (.string ByteArray.empty))] 1) [(0, x27)]) fun c2 => ob (T.toDs c2) fun d2 => ob (appV 3 32 st x5 (.sl false 1 d2 .lit)) fun a3 => (some (.normal, [(4, x4), (5, a3.1), (6, x6)], ⟨st.H, a3.2⟩) : Res) :=
  (runI_reg (c := n56_23) (id := 8) (ops := opsOf n56_23) (draw := false) (by kernel_rfl)).trans (by kernel_rfl)
@[simp] theorem e56_24 (fr : Fr) (st : St) : runI cfg 56 n56_24 fr st = ob (lookF fr 4) fun x4 => ob (lookF fr 5) fun x5 => ob (lookF fr 6) fun x6 => ob (binV cfg.P (opAt n56_24 1) .sub 3 (.int .i64) x6 (.d (.int .i64 1))) fun x16 => (some (.normal, [(4, x4), (5, x5), (6, x16)], st) : Res) :=
  (runI_reg (c := n56_24) (id := 5) (ops := opsOf n56_24) (draw := false) (by kernel_rfl)).trans (by kernel_rfl)
@[simp] theorem e56_25 (fr : Fr) (st : St) : runI cfg 56 n56_25 fr st = thenR cfg 56 n56_27 (runI cfg 56 n56_26 fr st) := run_seq (by kernel_rfl)
@[simp] theorem e56_26 (fr : Fr) (st : St) : runI cfg 56 n56_26 fr st = ob (lookF fr 4) fun x4 => ob (lookF fr 5) fun x5 => ob (callI cfg 59 [x4] st) fun r2 => gC r2.1 (none) (ob (callI cfg 60 [x5] r2.2) fun r5 => (some (.normal, [(2, x5), (3, r5.1)], r5.2) : Res)) ((some (.normal, [(2, x5), (3, ff)], r2.2) : Res)) :=
  (runI_reg (c := n56_26) (id := 9) (ops := opsOf n56_26) (draw := false) (by kernel_rfl)).trans (by kernel_rfl)
@[simp] theorem e56_27 (fr : Fr) (st : St) : runI cfg 56 n56_27 fr st = some (.ret, fr, st) := run_ret (by kernel_rfl)
@[simp] theorem z56 (fr : Fr) (st : St) : endR cfg Try.f56 (some (.ret, fr, st)) = ob (lookF fr 2) fun x0 => ob (lookF fr 3) fun x1 => some (.tup [x0, x1], st) := end_r.trans (by kernel_rfl)
@[simp] theorem w56 (fr : Fr) (st : St) : endR cfg Try.f56 (some (.normal, fr, st)) = ob (lookF fr 2) fun x0 => ob (lookF fr 3) fun x1 => some (.tup [x0, x1], st) := end_n.trans (by kernel_rfl)
theorem c56 (ts : List T) (st : St) : callI cfg 56 ts st = ob (closeAll ts) fun ts => backR st (endR cfg Try.f56 (runI cfg 56 n56_0 (enumF 0 ts) ⟨[], []⟩)) := call_pure (by kernel_rfl) (by kernel_rfl) (by kernel_rfl) (by kernel_rfl)
/-! 57: (*fettle.fettleref1.Reader).Bytes -/
noncomputable def n57_0 : Code := codeB Try.f57
noncomputable def n57_1 : Code := kid n57_0 false
noncomputable def n57_2 : Code := kid n57_0 true
noncomputable def n57_3 : Code := kid n57_2 false
noncomputable def n57_4 : Code := kid n57_2 true
noncomputable def n57_5 : Code := kid n57_4 false
noncomputable def n57_6 : Code := kid n57_5 false
noncomputable def n57_7 : Code := kid n57_5 true
noncomputable def n57_8 : Code := kid n57_7 false
noncomputable def n57_9 : Code := kid n57_8 false
noncomputable def n57_10 : Code := kid n57_8 true
noncomputable def n57_11 : Code := kid n57_10 false
noncomputable def n57_12 : Code := kid n57_10 true
noncomputable def n57_13 : Code := kid n57_7 true
noncomputable def n57_14 : Code := kid n57_4 true
noncomputable def n57_15 : Code := kid n57_14 false
noncomputable def n57_16 : Code := kid n57_14 true
noncomputable def n57_17 : Code := kid n57_16 false
noncomputable def n57_18 : Code := kid n57_16 true
noncomputable def n57_19 : Code := kid n57_18 false
noncomputable def n57_20 : Code := kid n57_18 true
@[simp] theorem e57_0 (fr : Fr) (st : St) : runI cfg 57 n57_0 fr st = thenR cfg 57 n57_2 (runI cfg 57 n57_1 fr st) := run_seq (by kernel_rfl)
@[simp] theorem e57_1 (fr : Fr) (st : St) : runI cfg 57 n57_1 fr st = ob (lookF fr 0) fun x0 => ob (lookF fr 1) fun x1 => (some (.normal, [(0, x0), (1, x1)], st) : Res) :=
  (runI_reg (c := n57_1) (id := 0) (ops := opsOf n57_1) (draw := false) (by kernel_rfl)).trans (by kernel_rfl)
@[simp] theorem e57_2 (fr : Fr) (st : St) : runI cfg 57 n57_2 fr st = thenR cfg 57 n57_4 (runI cfg 57 n57_3 fr st) := run_seq (by kernel_rfl)
@[simp] theorem e57_3 (fr : Fr) (st : St) : runI cfg 57 n57_3 fr st = ob (lookF fr 0) fun x0 => ob (lookF fr 1) fun x1 => ob (callI cfg 58 [x0, x1] st) fun r2 => (some (.normal, [(0, x0), (5, r2.1)], r2.2) : Res) :=
  (runI_reg (c := n57_3) (id := 1) (ops := opsOf n57_3) (draw := false) (by kernel_rfl)).trans (by kernel_rfl)
@[simp] theorem e57_4 (fr : Fr) (st : St) : runI cfg 57 n57_4 fr st = thenR cfg 57 n57_14 (runI cfg 57 n57_5 fr st) := run_seq (by kernel_rfl)
@[simp] theorem e57_5 (fr : Fr) (st : St) : runI cfg 57 n57_5 fr st = thenR cfg 57 n57_7 (runI cfg 57 n57_6 fr st) := run_seq (by kernel_rfl)
@[simp] theorem e57_6 (fr : Fr) (st : St) : runI cfg 57 n57_6 fr st = ob (lookF fr 0) fun x0 => ob (lookF fr 5) fun x5 => ob (nilV x0) fun x11 => ob (addrV 1 x11) fun x12 => ob (loadV 1 false st.H x12) fun x13 => gC x13 (none) ((some (.normal, [(0, x0), (5, x5), (22, tt)], st) : Res)) (ob (nilV x0) fun x17 => ob (addrV 0 x17) fun x18 => ob (loadV 1 false st.H x18) fun x19 => ob (lenV (.slice 5) st.H x19) fun x20 => ob (binV cfg.P (opAt n57_6 11) .gtr 3 (.int .i64) x5 x20) fun x21 => (some (.normal, [(0, x0), (5, x5), (22, x21)], st) : Res)) :=
  (runI_reg (c := n57_6) (id := 2) (ops := opsOf n57_6) (draw := false) (by kernel_rfl)).trans (by kernel_rfl)
@[simp] theorem e57_7 (fr : Fr) (st : St) : runI cfg 57 n57_7 fr st = ob (lookF fr 22) fun v => gC v none (runI cfg 57 n57_8 fr st) (runI cfg 57 n57_13 fr st) := run_cond (x := .tmp 22) (by kernel_rfl)
@[simp] theorem e57_8 (fr : Fr) (st : St) : runI cfg 57 n57_8 fr st = thenR cfg 57 n57_10 (runI cfg 57 n57_9 fr st) := run_seq (by kernel_rfl)
@[simp] theorem e57_9 (fr : Fr) (st : St) : runI cfg 57 n57_9 fr st = ob (lookF fr 0) fun x0 => ob (nilV x0) fun x24 => ob (addrV 1 x24) fun x25 => ob (storeV 1 st.H x25 tt) fun h3 => (some (.normal, [], ⟨h3, st.E⟩) : Res) :=
  (runI_reg (c := n57_9) (id := 3) (ops := opsOf n57_9) (draw := false) (by kernel_rfl)).trans (by kernel_rfl)
@[simp] theorem e57_10 (fr : Fr) (st : St) : runI cfg 57 n57_10 fr st = thenR cfg 57 n57_12 (runI cfg 57 n57_11 fr st) := run_seq (by kernel_rfl)
@[simp] theorem e57_11 (fr : Fr) (st : St) : runI cfg 57 n57_11 fr st = (some (.normal, [(4, nilS)], st) : Res) :=
  (runI_reg (c := n57_11) (id := 4) (ops := opsOf n57_11) (draw := false) (by kernel_rfl)).trans (by kernel_rfl)
@[simp] theorem e57_12 (fr : Fr) (st : St) : runI cfg 57 n57_12 fr st = some (.ret, fr, st) := run_ret (by kernel_rfl)
@[simp] theorem e57_13 (fr : Fr) (st : St) : runI cfg 57 n57_13 fr st = some (.normal, fr, st) := run_skip (by kernel_rfl)
@[simp] theorem e57_14 (fr : Fr) (st : St) : runI cfg 57 n57_14 fr st = thenR cfg 57 n57_16 (runI cfg 57 n57_15 fr st) := run_seq (by kernel_rfl)
@[simp] theorem e57_15 (fr : Fr) (st : St) : runI cfg 57 n57_15 fr st = ob (lookF fr 0) fun x0 => ob (lookF fr 5) fun x5 => ob (fillA 1 (repeatL [(.d (.int .u8 0))] 0) []) fun c0 => ob (T.toDs c0) fun d0 => ob (nilV x0) fun x28 => ob (addrV 0 x28) fun x29 => ob (loadV 1 false st.H x29) fun x30 => ob (sliceV (.slice 5) (some 1) x30 none (some x5) none) fun x32 => ob (appV 1 1 st (.sl false 0 d0 .lit) x32) fun a7 => (some (.normal, [(0, x0), (5, x5), (6, a7.1)], ⟨st.H, a7.2⟩) : Res) :=
  (runI_reg (c := n57_15) (id := 5) (ops := opsOf n57_15) (draw := false) (by kernel_rfl)).trans (by kernel_rfl)
@[simp] theorem e57_16 (fr : Fr) (st : St) : runI cfg 57 n57_16 fr st = thenR cfg 57 n57_18 (runI cfg 57 n57_17 fr st) := run_seq (by kernel_rfl)
@[simp] theorem e57_17 (fr : Fr) (st : St) : runI cfg 57 n57_17 fr st = ob (lookF fr 0) fun x0 => ob (lookF fr 5) fun x5 => ob (lookF fr 6) fun x6 => ob (nilV x0) fun x36 => ob (addrV 0 x36) fun x37 => ob (loadV 1 false st.H x37) fun x38 => ob (sliceV (.slice 5) (some 1) x38 (some x5) none none) fun x40 => ob (nilV x0) fun x41 => ob (addrV 0 x41) fun x42 => ob (storeV 1 st.H x42 x40) fun h9 => (some (.normal, [(6, x6)], ⟨h9, st.E⟩) : Res) :=
  (runI_reg (c := n57_17) (id := 6) (ops := opsOf n57_17) (draw := false) (by kernel_rfl)).trans (by kernel_rfl)
@[simp] theorem e57_18 (fr : Fr) (st : St) : runI cfg 57 n57_18 fr st = thenR cfg 57 n57_20 (runI cfg 57 n57_19 fr st) := run_seq (by kernel_rfl)
@[simp] theorem e57_19 (fr : Fr) (st : St) : runI cfg 57 n57_19 fr st = ob (lookF fr 6) fun x6 => (some (.normal, [(4, x6)], st) : Res) :=
  (runI_reg (c := n57_19) (id := 7) (ops := opsOf n57_19) (draw := false) (by kernel_rfl)).trans (by kernel_rfl)
@[simp] theorem e57_20 (fr : Fr) (st : St) : runI cfg 57 n57_20 fr st = some (.ret, fr, st) := run_ret (by kernel_rfl)
@[simp] theorem z57 (fr : Fr) (st : St) : endR cfg Try.f57 (some (.ret, fr, st)) = ob (lookF fr 4) fun x0 => some (x0, st) := end_r.trans (by kernel_rfl)
@[simp] theorem w57 (fr : Fr) (st : St) : endR cfg Try.f57 (some (.normal, fr, st)) = ob (lookF fr 4) fun x0 => some (x0, st) := end_n.trans (by kernel_rfl)
theorem c57 (ts : List T) (st : St) : callI cfg 57 ts st = endR cfg Try.f57 (runI cfg 57 n57_0 (enumF 0 ts) st) := call_inl (by kernel_rfl) (by kernel_rfl) (by kernel_rfl) (by kernel_rfl)
/-! 58: (*fettle.fettleref1.Reader).Num -/
noncomputable def n58_0 : Code := codeB Try.f58
noncomputable def n58_1 : Code := kid n58_0 false
noncomputable def n58_2 : Code := kid n58_0 true
noncomputable def n58_3 : Code := kid n58_2 false
noncomputable def n58_4 : Code := kid n58_3 false
noncomputable def n58_5 : Code := kid n58_3 true
noncomputable def n58_6 : Code := kid n58_5 false
noncomputable def n58_7 : Code := kid n58_6 false
noncomputable def n58_8 : Code := kid n58_6 true
noncomputable def n58_9 : Code := kid n58_8 false
noncomputable def n58_10 : Code := kid n58_8 true
noncomputable def n58_11 : Code := kid n58_5 true
noncomputable def n58_12 : Code := kid n58_2 true
noncomputable def n58_13 : Code := kid n58_12 false
noncomputable def n58_14 : Code := kid n58_12 true
noncomputable def n58_15 : Code := kid n58_14 false
noncomputable def n58_16 : Code := kid n58_15 false
noncomputable def n58_17 : Code := kid n58_15 true
noncomputable def n58_18 : Code := kid n58_17 false
noncomputable def n58_19 : Code := kid n58_18 false
noncomputable def n58_20 : Code := kid n58_19 false
noncomputable def n58_21 : Code := kid n58_20 false
noncomputable def n58_22 : Code := kid n58_20 true
noncomputable def n58_23 : Code := kid n58_22 false
noncomputable def n58_24 : Code := kid n58_22 true
noncomputable def n58_25 : Code := kid n58_19 true
noncomputable def n58_26 : Code := kid n58_25 false
noncomputable def n58_27 : Code := kid n58_26 false
noncomputable def n58_28 : Code := kid n58_25 true
noncomputable def n58_29 : Code := kid n58_14 true
noncomputable def n58_30 : Code := kid n58_29 false
noncomputable def n58_31 : Code := kid n58_30 false
noncomputable def n58_32 : Code := kid n58_30 true
noncomputable def n58_33 : Code := kid n58_32 false
noncomputable def n58_34 : Code := kid n58_33 false
noncomputable def n58_35 : Code := kid n58_33 true
noncomputable def n58_36 : Code := kid n58_35 false
noncomputable def n58_37 : Code := kid n58_35 true
noncomputable def n58_38 : Code := kid n58_32 true
noncomputable def n58_39 : Code := kid n58_29 true
noncomputable def n58_40 : Code := kid n58_39 false
noncomputable def n58_41 : Code := kid n58_39 true
noncomputable def n58_42 : Code := kid n58_41 false
noncomputable def n58_43 : Code := kid n58_41 true
@[simp] theorem e58_0 (fr : Fr) (st : St) : runI cfg 58 n58_0 fr st = thenR cfg 58 n58_2 (runI cfg 58 n58_1 fr st) := run_seq (by kernel_rfl)
@[simp] theorem e58_1 (fr : Fr) (st : St) : runI cfg 58 n58_1 fr st = ob (lookF fr 0) fun x0 => ob (lookF fr 1) fun x1 => (some (.normal, [(0, x0), (1, x1)], st) : Res) :=
  (runI_reg (c := n58_1) (id := 0) (ops := opsOf n58_1) (draw := false) (by kernel_rfl)).trans (by kernel_rfl)
@[simp] theorem e58_2 (fr : Fr) (st : St) : runI cfg 58 n58_2 fr st = thenR cfg 58 n58_12 (runI cfg 58 n58_3 fr st) := run_seq (by kernel_rfl)
@[simp] theorem e58_3 (fr : Fr) (st : St) : runI cfg 58 n58_3 fr st = thenR cfg 58 n58_5 (runI cfg 58 n58_4 fr st) := run_seq (by kernel_rfl)
@[simp] theorem e58_4 (fr : Fr) (st : St) : runI cfg 58 n58_4 fr st = ob (lookF fr 0) fun x0 => ob (lookF fr 1) fun x1 => ob (nilV x0) fun x8 => ob (addrV 1 x8) fun x9 => ob (loadV 1 false st.H x9) fun x10 => gC x10 (none) ((some (.normal, [(0, x0), (1, x1), (18, tt)], st) : Res)) (ob (nilV x0) fun x13 => ob (addrV 0 x13) fun x14 => ob (loadV 1 false st.H x14) fun x15 => ob (lenV (.slice 5) st.H x15) fun x16 => ob (binV cfg.P (opAt n58_4 10) .lss 3 (.int .i64) x16 (.d (.int .i64 6))) fun x17 => (some (.normal, [(0, x0), (1, x1), (18, x17)], st) : Res)) :=
  (runI_reg (c := n58_4) (id := 1) (ops := opsOf n58_4) (draw := false) (by kernel_rfl)).trans (by kernel_rfl)
@[simp] theorem e58_5 (fr : Fr) (st : St) : runI cfg 58 n58_5 fr st = ob (lookF fr 18) fun v => gC v none (runI cfg 58 n58_6 fr st) (runI cfg 58 n58_11 fr st) := run_cond (x := .tmp 18) (by kernel_rfl)
@[simp] theorem e58_6 (fr : Fr) (st : St) : runI cfg 58 n58_6 fr st = thenR cfg 58 n58_8 (runI cfg 58 n58_7 fr st) := run_seq (by kernel_rfl)
@[simp] theorem e58_7 (fr : Fr) (st : St) : runI cfg 58 n58_7 fr st = ob (lookF fr 0) fun x0 => ob (nilV x0) fun x20 => ob (addrV 1 x20) fun x21 => ob (storeV 1 st.H x21 tt) fun h3 => (some (.normal, [], ⟨h3, st.E⟩) : Res) :=
  (runI_reg (c := n58_7) (id := 2) (ops := opsOf n58_7) (draw := false) (by kernel_rfl)).trans (by kernel_rfl)
@[simp] theorem e58_8 (fr : Fr) (st : St) : runI cfg 58 n58_8 fr st = thenR cfg 58 n58_10 (runI cfg 58 n58_9 fr st) := run_seq (by kernel_rfl)
@[simp] theorem e58_9 (fr : Fr) (st : St) : runI cfg 58 n58_9 fr st = (some (.normal, [(4, (.d (.int .i64 0)))], st) : Res) :=
  (runI_reg (c := n58_9) (id := 3) (ops := opsOf n58_9) (draw := false) (by kernel_rfl)).trans (by kernel_rfl)
@[simp] theorem e58_10 (fr : Fr) (st : St) : runI cfg 58 n58_10 fr st = some (.ret, fr, st) := run_ret (by kernel_rfl)
@[simp] theorem e58_11 (fr : Fr) (st : St) : runI cfg 58 n58_11 fr st = some (.normal, fr, st) := run_skip (by kernel_rfl)
@[simp] theorem e58_12 (fr : Fr) (st : St) : runI cfg 58 n58_12 fr st = thenR cfg 58 n58_14 (runI cfg 58 n58_13 fr st) := run_seq (by kernel_rfl)
@[simp] theorem e58_13 (fr : Fr) (st : St) : runI cfg 58 n58_13 fr st = ob (lookF fr 0) fun x0 => ob (lookF fr 1) fun x1 => (some (.normal, [(0, x0), (1, x1), (5, (.d (.int .i64 0)))], st) : Res) :=
  (runI_reg (c := n58_13) (id := 4) (ops := opsOf n58_13) (draw := false) (by kernel_rfl)).trans (by kernel_rfl)
@[simp] theorem e58_14 (fr : Fr) (st : St) : runI cfg 58 n58_14 fr st = thenR cfg 58 n58_29 (runI cfg 58 n58_15 fr st) := run_seq (by kernel_rfl)
@[simp] theorem e58_15 (fr : Fr) (st : St) : runI cfg 58 n58_15 fr st = thenR cfg 58 n58_17 (runI cfg 58 n58_16 fr st) := run_seq (by kernel_rfl)
@[simp] theorem e58_16 (fr : Fr) (st : St) : runI cfg 58 n58_16 fr st = ob (lookF fr 0) fun x0 => ob (lookF fr 1) fun x1 => ob (lookF fr 5) fun x5 => (some (.normal, [(0, x0), (1, x1), (5, x5), (6, (.d (.int .i64 0)))], st) : Res) :=
  (runI_reg (c := n58_16) (id := 5) (ops := opsOf n58_16) (draw := false) (by kernel_rfl)).trans (by kernel_rfl)
@[simp] theorem e58_17 (fr : Fr) (st : St) : runI cfg 58 n58_17 fr st = blockI 0 (runI cfg 58 n58_18 fr st) := run_block (by kernel_rfl)
theorem l58_18 (fr : Fr) (st : St) : runI cfg 58 n58_18 fr st = loopR cfg 58 n58_18 st.H.length (runI cfg 58 n58_19 fr st) := run_loop (by kernel_rfl)
@[simp] theorem e58_19 (fr : Fr) (st : St) : runI cfg 58 n58_19 fr st = thenR cfg 58 n58_25 (runI cfg 58 n58_20 fr st) := run_seq (by kernel_rfl)
@[simp] theorem e58_20 (fr : Fr) (st : St) : runI cfg 58 n58_20 fr st = thenR cfg 58 n58_22 (runI cfg 58 n58_21 fr st) := run_seq (by kernel_rfl)
@[simp] theorem e58_21 (fr : Fr) (st : St) : runI cfg 58 n58_21 fr st = ob (lookF fr 0) fun x0 => ob (lookF fr 1) fun x1 => ob (lookF fr 5) fun x5 => ob (lookF fr 6) fun x6 => ob (binV cfg.P (opAt n58_21 1) .lss 3 (.int .i64) x6 (.d (.int .i64 6))) fun x23 => (some (.normal, [(0, x0), (1, x1), (5, x5), (6, x6), (23, x23)], st) : Res) :=
  (runI_reg (c := n58_21) (id := 6) (ops := opsOf n58_21) (draw := false) (by kernel_rfl)).trans (by kernel_rfl)
@[simp] theorem e58_22 (fr : Fr) (st : St) : runI cfg 58 n58_22 fr st = ob (lookF fr 23) fun v => gC v none (runI cfg 58 n58_23 fr st) (runI cfg 58 n58_24 fr st) := run_cond (x := .tmp 23) (by kernel_rfl)
@[simp] theorem e58_23 (fr : Fr) (st : St) : runI cfg 58 n58_23 fr st = some (.normal, fr, st) := run_skip (by kernel_rfl)
@[simp] theorem e58_24 (fr : Fr) (st : St) : runI cfg 58 n58_24 fr st = some (.exit 0, fr, st) := run_exit (by kernel_rfl)
@[simp] theorem e58_25 (fr : Fr) (st : St) : runI cfg 58 n58_25 fr st = thenR cfg 58 n58_28 (runI cfg 58 n58_26 fr st) := run_seq (by kernel_rfl)
@[simp] theorem e58_26 (fr : Fr) (st : St) : runI cfg 58 n58_26 fr st = blockI 1 (runI cfg 58 n58_27 fr st) := run_block (by kernel_rfl)
@[simp] theorem e58_27 (fr : Fr) (st : St) : runI cfg 58 n58_27 fr st = ob (lookF fr 0) fun x0 => ob (lookF fr 1) fun x1 => ob (lookF fr 5) fun x5 => ob (lookF fr 6) fun x6 => ob (binV cfg.P (opAt n58_27 1) .shl 3 (.int .i64) x5 (.d (.int .u64 8))) fun x27 => ob (nilV x0) fun x29 => ob (addrV 0 x29) fun x30 => ob (loadV 1 false st.H x30) fun x31 => ob (ixV 1 x31 x6) fun x33 => ob (loadV 1 false st.H x33) fun x34 => ob (convV cfg.P (opAt n58_27 9) false (some (.int .u8)) (some (.int .i64)) none none x34) fun x35 => ob (binV cfg.P (opAt n58_27 10) .or 3 (.int .i64) x27 x35) fun x36 => (some (.normal, [(0, x0), (1, x1), (5, x36), (6, x6)], st) : Res) :=
  (runI_reg (c := n58_27) (id := 8) (ops := opsOf n58_27) (draw := false) (by kernel_rfl)).trans (by kernel_rfl)
@[simp] theorem e58_28 (fr : Fr) (st : St) : runI cfg 58 n58_28 fr st = ob (lookF fr 0) fun x0 => ob (lookF fr 1) fun x1 => ob (lookF fr 5) fun x5 => ob (lookF fr 6) fun x6 => ob (binV cfg.P (opAt n58_28 1) .add 3 (.int .i64) x6 (.d (.int .i64 1))) fun x25 => (some (.normal, [(0, x0), (1, x1), (5, x5), (6, x25)], st) : Res) :=
  (runI_reg (c := n58_28) (id := 7) (ops := opsOf n58_28) (draw := false) (by kernel_rfl)).trans (by kernel_rfl)
@[simp] theorem e58_29 (fr : Fr) (st : St) : runI cfg 58 n58_29 fr st = thenR cfg 58 n58_39 (runI cfg 58 n58_30 fr st) := run_seq (by kernel_rfl)
@[simp] theorem e58_30 (fr : Fr) (st : St) : runI cfg 58 n58_30 fr st = thenR cfg 58 n58_32 (runI cfg 58 n58_31 fr st) := run_seq (by kernel_rfl)
@[simp] theorem e58_31 (fr : Fr) (st : St) : runI cfg 58 n58_31 fr st = ob (lookF fr 0) fun x0 => ob (lookF fr 1) fun x1 => ob (lookF fr 5) fun x5 => ob (binV cfg.P (opAt n58_31 2) .gtr 3 (.int .i64) x5 x1) fun x39 => (some (.normal, [(0, x0), (5, x5), (39, x39)], st) : Res) :=
  (runI_reg (c := n58_31) (id := 9) (ops := opsOf n58_31) (draw := false) (by kernel_rfl)).trans (by kernel_rfl)
@[simp] theorem e58_32 (fr : Fr) (st : St) : runI cfg 58 n58_32 fr st = ob (lookF fr 39) fun v => gC v none (runI cfg 58 n58_33 fr st) (runI cfg 58 n58_38 fr st) := run_cond (x := .tmp 39) (by kernel_rfl)
@[simp] theorem e58_33 (fr : Fr) (st : St) : runI cfg 58 n58_33 fr st = thenR cfg 58 n58_35 (runI cfg 58 n58_34 fr st) := run_seq (by kernel_rfl)
@[simp] theorem e58_34 (fr : Fr) (st : St) : runI cfg 58 n58_34 fr st = ob (lookF fr 0) fun x0 => ob (nilV x0) fun x41 => ob (addrV 1 x41) fun x42 => ob (storeV 1 st.H x42 tt) fun h3 => (some (.normal, [], ⟨h3, st.E⟩) : Res) :=
  (runI_reg (c := n58_34) (id := 10) (ops := opsOf n58_34) (draw := false) (by kernel_rfl)).trans (by kernel_rfl)
@[simp] theorem e58_35 (fr : Fr) (st : St) : runI cfg 58 n58_35 fr st = thenR cfg 58 n58_37 (runI cfg 58 n58_36 fr st) := run_seq (by kernel_rfl)
@[simp] theorem e58_36 (fr : Fr) (st : St) : runI cfg 58 n58_36 fr st = (some (.normal, [(4, (.d (.int .i64 0)))], st) : Res) :=
  (runI_reg (c := n58_36) (id := 11) (ops := opsOf n58_36) (draw := false) (by kernel_rfl)).trans (by kernel_rfl)
@[simp] theorem e58_37 (fr : Fr) (st : St) : runI cfg 58 n58_37 fr st = some (.ret, fr, st) := run_ret (by kernel_rfl)
@[simp] theorem e58_38 (fr : Fr) (st : St) : runI cfg 58 n58_38 fr st = some (.normal, fr, st) := run_skip (by kernel_rfl)
@[simp] theorem e58_39 (fr : Fr) (st : St) : runI cfg 58 n58_39 fr st = thenR cfg 58 n58_41 (runI cfg 58 n58_40 fr st) := run_seq (by kernel_rfl)
@[simp] theorem e58_40 (fr : Fr) (st : St) : runI cfg 58 n58_40 fr st = ob (lookF fr 0) fun x0 => ob (lookF fr 5) fun x5 => ob (nilV x0) fun x45 => ob (addrV 0 x45) fun x46 => ob (loadV 1 false st.H x46) fun x47 => ob (sliceV (.slice 5) (some 1) x47 (some (.d (.int .i64 6))) none none) fun x48 => ob (nilV x0) fun x49 => ob (addrV 0 x49) fun x50 => ob (storeV 1 st.H x50 x48) fun h8 => (some (.normal, [(5, x5)], ⟨h8, st.E⟩) : Res) :=
  (runI_reg (c := n58_40) (id := 12) (ops := opsOf n58_40) (draw := false) (by kernel_rfl)).trans (by kernel_rfl)
@[simp] theorem e58_41 (fr : Fr) (st : St) : runI cfg 58 n58_41 fr st = thenR cfg 58 n58_43 (runI cfg 58 n58_42 fr st) := run_seq (by kernel_rfl)
@[simp] theorem e58_42 (fr : Fr) (st : St) : runI cfg 58 n58_42 fr st = ob (lookF fr 5) fun x5 => (some (.normal, [(4, x5)], st) : Res) :=
  (runI_reg (c := n58_42) (id := 13) (ops := opsOf n58_42) (draw := false) (by kernel_rfl)).trans (by kernel_rfl)
@[simp] theorem e58_43 (fr : Fr) (st : St) : runI cfg 58 n58_43 fr st = some (.ret, fr, st) := run_ret (by kernel_rfl)
@[simp] theorem z58 (fr : Fr) (st : St) : endR cfg Try.f58 (some (.ret, fr, st)) = ob (lookF fr 4) fun x0 => some (x0, st) := end_r.trans (by kernel_rfl)
@[simp] theorem w58 (fr : Fr) (st : St) : endR cfg Try.f58 (some (.normal, fr, st)) = ob (lookF fr 4) fun x0 => some (x0, st) := end_n.trans (by kernel_rfl)
theorem c58 (ts : List T) (st : St) : callI cfg 58 ts st = endR cfg Try.f58 (runI cfg 58 n58_0 (enumF 0 ts) st) := call_inl (by kernel_rfl) (by kernel_rfl) (by kernel_rfl) (by kernel_rfl)
/-! 59: (*fettle.fettleref1.Reader).End -/
noncomputable def n59_0 : Code := codeB Try.f59
noncomputable def n59_1 : Code := kid n59_0 false
noncomputable def n59_2 : Code := kid n59_0 true
noncomputable def n59_3 : Code := kid n59_2 false
noncomputable def n59_4 : Code := kid n59_2 true
@[simp] theorem e59_0 (fr : Fr) (st : St) : runI cfg 59 n59_0 fr st = thenR cfg 59 n59_2 (runI cfg 59 n59_1 fr st) := run_seq (by kernel_rfl)
@[simp] theorem e59_1 (fr : Fr) (st : St) : runI cfg 59 n59_1 fr st = ob (lookF fr 0) fun x0 => (some (.normal, [(0, x0)], st) : Res) :=
  (runI_reg (c := n59_1) (id := 0) (ops := opsOf n59_1) (draw := false) (by kernel_rfl)).trans (by kernel_rfl)
@[simp] theorem e59_2 (fr : Fr) (st : St) : runI cfg 59 n59_2 fr st = thenR cfg 59 n59_4 (runI cfg 59 n59_3 fr st) := run_seq (by kernel_rfl)
@[simp] theorem e59_3 (fr : Fr) (st : St) : runI cfg 59 n59_3 fr st = ob (lookF fr 0) fun x0 => ob (nilV x0) fun x4 => ob (addrV 1 x4) fun x5 => ob (loadV 1 false st.H x5) fun x6 => ob (notV cfg.P (opAt n59_3 4) .not x6) fun x7 => gC x7 (none) (ob (nilV x0) fun x10 => ob (addrV 0 x10) fun x11 => ob (loadV 1 false st.H x11) fun x12 => ob (lenV (.slice 5) st.H x12) fun x13 => ob (binV cfg.P (opAt n59_3 11) .eql 3 (.int .i64) x13 (.d (.int .i64 0))) fun x14 => (some (.normal, [(2, x14)], st) : Res)) ((some (.normal, [(2, ff)], st) : Res)) :=
  (runI_reg (c := n59_3) (id := 1) (ops := opsOf n59_3) (draw := false) (by kernel_rfl)).trans (by kernel_rfl)
@[simp] theorem e59_4 (fr : Fr) (st : St) : runI cfg 59 n59_4 fr st = some (.ret, fr, st) := run_ret (by kernel_rfl)
@[simp] theorem z59 (fr : Fr) (st : St) : endR cfg Try.f59 (some (.ret, fr, st)) = ob (lookF fr 2) fun x0 => some (x0, st) := end_r.trans (by kernel_rfl)
@[simp] theorem w59 (fr : Fr) (st : St) : endR cfg Try.f59 (some (.normal, fr, st)) = ob (lookF fr 2) fun x0 => some (x0, st) := end_n.trans (by kernel_rfl)
theorem c59 (ts : List T) (st : St) : callI cfg 59 ts st = endR cfg Try.f59 (runI cfg 59 n59_0 (enumF 0 ts) st) := call_inl (by kernel_rfl) (by kernel_rfl) (by kernel_rfl) (by kernel_rfl)
/-! 60: fettle.fettleref4.OkAct -/
noncomputable def n60_0 : Code := codeB Try.f60
noncomputable def n60_1 : Code := kid n60_0 false
noncomputable def n60_2 : Code := kid n60_0 true
noncomputable def n60_3 : Code := kid n60_2 false
noncomputable def n60_4 : Code := kid n60_3 false
noncomputable def n60_5 : Code := kid n60_3 true
noncomputable def n60_6 : Code := kid n60_5 false
noncomputable def n60_7 : Code := kid n60_6 false
noncomputable def n60_8 : Code := kid n60_7 false
noncomputable def n60_9 : Code := kid n60_8 false
noncomputable def n60_10 : Code := kid n60_8 true
noncomputable def n60_11 : Code := kid n60_10 false
noncomputable def n60_12 : Code := kid n60_10 true
noncomputable def n60_13 : Code := kid n60_7 true
noncomputable def n60_14 : Code := kid n60_13 false
noncomputable def n60_15 : Code := kid n60_14 false
noncomputable def n60_16 : Code := kid n60_15 false
noncomputable def n60_17 : Code := kid n60_15 true
noncomputable def n60_18 : Code := kid n60_17 false
noncomputable def n60_19 : Code := kid n60_17 true
noncomputable def n60_20 : Code := kid n60_19 false
noncomputable def n60_21 : Code := kid n60_19 true
noncomputable def n60_22 : Code := kid n60_21 false
noncomputable def n60_23 : Code := kid n60_21 true
noncomputable def n60_24 : Code := kid n60_23 false
noncomputable def n60_25 : Code := kid n60_24 false
noncomputable def n60_26 : Code := kid n60_24 true
noncomputable def n60_27 : Code := kid n60_26 false
noncomputable def n60_28 : Code := kid n60_26 true
noncomputable def n60_29 : Code := kid n60_23 true
noncomputable def n60_30 : Code := kid n60_29 false
noncomputable def n60_31 : Code := kid n60_30 false
noncomputable def n60_32 : Code := kid n60_30 true
noncomputable def n60_33 : Code := kid n60_32 false
noncomputable def n60_34 : Code := kid n60_32 true
noncomputable def n60_35 : Code := kid n60_29 true
noncomputable def n60_36 : Code := kid n60_35 false
noncomputable def n60_37 : Code := kid n60_35 true
noncomputable def n60_38 : Code := kid n60_37 false
noncomputable def n60_39 : Code := kid n60_38 false
noncomputable def n60_40 : Code := kid n60_38 true
noncomputable def n60_41 : Code := kid n60_37 true
noncomputable def n60_42 : Code := kid n60_13 true
noncomputable def n60_43 : Code := kid n60_2 true
noncomputable def n60_44 : Code := kid n60_43 false
noncomputable def n60_45 : Code := kid n60_43 true
@[simp] theorem e60_0 (fr : Fr) (st : St) : runI cfg 60 n60_0 fr st = thenR cfg 60 n60_2 (runI cfg 60 n60_1 fr st) := run_seq (by kernel_rfl)
@[simp] theorem e60_1 (fr : Fr) (st : St) : runI cfg 60 n60_1 fr st = ob (lookF fr 0) fun x0 => (some (.normal, [(0, x0)], st) : Res) :=
  (runI_reg (c := n60_1) (id := 0) (ops := opsOf n60_1) (draw := false) (by kernel_rfl)).trans (by kernel_rfl)
@[simp] theorem e60_2 (fr : Fr) (st : St) : runI cfg 60 n60_2 fr st = thenR cfg 60 n60_43 (runI cfg 60 n60_3 fr st) := run_seq (by kernel_rfl)
@[simp] theorem e60_3 (fr : Fr) (st : St) : runI cfg 60 n60_3 fr st = thenR cfg 60 n60_5 (runI cfg 60 n60_4 fr st) := run_seq (by kernel_rfl)
@[simp] theorem e60_4 (fr : Fr) (st : St) : runI cfg 60 n60_4 fr st = ob (lookF fr 0) fun x0 => (some (.normal, [(0, x0), (3, (.d (.int .i64 0)))], st) : Res) :=
  (runI_reg (c := n60_4) (id := 1) (ops := opsOf n60_4) (draw := false) (by kernel_rfl)).trans (by kernel_rfl)
@[simp] theorem e60_5 (fr : Fr) (st : St) : runI cfg 60 n60_5 fr st = blockI 0 (runI cfg 60 n60_6 fr st) := run_block (by kernel_rfl)
theorem l60_6 (fr : Fr) (st : St) : runI cfg 60 n60_6 fr st = loopR cfg 60 n60_6 st.H.length (runI cfg 60 n60_7 fr st) := run_loop (by kernel_rfl)
@[simp] theorem e60_7 (fr : Fr) (st : St) : runI cfg 60 n60_7 fr st = thenR cfg 60 n60_13 (runI cfg 60 n60_8 fr st) := run_seq (by kernel_rfl)
@[simp] theorem e60_8 (fr : Fr) (st : St) : runI cfg 60 n60_8 fr st = thenR cfg 60 n60_10 (runI cfg 60 n60_9 fr st) := run_seq (by kernel_rfl)
@[simp] theorem e60_9 (fr : Fr) (st : St) : runI cfg 60 n60_9 fr st = ob (lookF fr 0) fun x0 => ob (lookF fr 3) fun x3 => ob (lenV (.slice 47) st.H x0) fun x10 => ob (binV cfg.P (opAt n60_9 3) .lss 3 (.int .i64) x3 x10) fun x11 => (some (.normal, [(0, x0), (3, x3), (11, x11)], st) : Res) :=
  (runI_reg (c := n60_9) (id := 2) (ops := opsOf n60_9) (draw := false) (by kernel_rfl)).trans (by kernel_rfl)
@[simp] theorem e60_10 (fr : Fr) (st : St) : runI cfg 60 n60_10 fr st = ob (lookF fr 11) fun v => gC v none (runI cfg 60 n60_11 fr st) (runI cfg 60 n60_12 fr st) := run_cond (x := .tmp 11) (by kernel_rfl)
@[simp] theorem e60_11 (fr : Fr) (st : St) : runI cfg 60 n60_11 fr st = some (.normal, fr, st) := run_skip (by kernel_rfl)
@[simp] theorem e60_12 (fr : Fr) (st : St) : runI cfg 60 n60_12 fr st = some (.exit 0, fr, st) := run_exit (by kernel_rfl)
@[simp] theorem e60_13 (fr : Fr) (st : St) : runI cfg 60 n60_13 fr st = thenR cfg 60 n60_42 (runI cfg 60 n60_14 fr st) := run_seq (by kernel_rfl)
@[simp] theorem e60_14 (fr : Fr) (st : St) : runI cfg 60 n60_14 fr st = blockI 1 (runI cfg 60 n60_15 fr st) := run_block (by kernel_rfl)
@[simp] theorem e60_15 (fr : Fr) (st : St) : runI cfg 60 n60_15 fr st = thenR cfg 60 n60_17 (runI cfg 60 n60_16 fr st) := run_seq (by kernel_rfl)
@[simp] theorem e60_16 (fr : Fr) (st : St) : runI cfg 60 n60_16 fr st = ob (lookF fr 0) fun x0 => ob (lookF fr 3) fun x3 => ob (ixV 3 x0 x3) fun x16 => ob (loadV 3 true st.H x16) fun x17 => ob (storeV 3 (st.H ++ [.cells [(.d (.int .i64 0)), (.d (.int .i64 0)), (.d (.string ByteArray.empty))]]) (.ptr st.H.length 0) x17) fun h5 => (some (.normal, [(0, x0), (3, x3), (4, (.ptr st.H.length 0))], ⟨h5, st.E⟩) : Res) :=
  (runI_reg (c := n60_16) (id := 4) (ops := opsOf n60_16) (draw := false) (by kernel_rfl)).trans (by kernel_rfl)
@[simp] theorem e60_17 (fr : Fr) (st : St) : runI cfg 60 n60_17 fr st = thenR cfg 60 n60_19 (runI cfg 60 n60_18 fr st) := run_seq (by kernel_rfl)
@[simp] theorem e60_18 (fr : Fr) (st : St) : runI cfg 60 n60_18 fr st = ob (lookF fr 0) fun x0 => ob (lookF fr 3) fun x3 => ob (lookF fr 4) fun x4 => ob (addrV 0 x4) fun x18 => ob (loadV 1 false st.H x18) fun x19 => ob (binV cfg.P (opAt n60_18 2) .eql 3 (.int .i64) x19 (.d (.int .i64 1))) fun x20 => gC x20 (none) ((some (.normal, [(0, x0), (3, x3), (4, x4), (5, tt)], st) : Res)) (ob (addrV 0 x4) fun x22 => ob (loadV 1 false st.H x22) fun x23 => ob (binV cfg.P (opAt n60_18 6) .eql 3 (.int .i64) x23 (.d (.int .i64 2))) fun x24 => gC x24 (none) ((some (.normal, [(0, x0), (3, x3), (4, x4), (5, tt)], st) : Res)) (ob (addrV 0 x4) fun x27 => ob (loadV 1 false st.H x27) fun x28 => ob (binV cfg.P (opAt n60_18 11) .eql 3 (.int .i64) x28 (.d (.int .i64 3))) fun x29 => (some (.normal, [(0, x0), (3, x3), (4, x4), (5, x29)], st) : Res))) :=
  (runI_reg (c := n60_18) (id := 5) (ops := opsOf n60_18) (draw := false) (by kernel_rfl)).trans (by kernel_rfl)
@[simp] theorem e60_19 (fr : Fr) (st : St) : runI cfg 60 n60_19 fr st = thenR cfg 60 n60_21 (runI cfg 60 n60_20 fr st) := run_seq (by kernel_rfl)
@[simp] theorem e60_20 (fr : Fr) (st : St) : runI cfg 60 n60_20 fr st = ob (lookF fr 0) fun x0 => ob (lookF fr 3) fun x3 => ob (lookF fr 4) fun x4 => ob (lookF fr 5) fun x5 => ob (addrV 0 x4) fun x31 => ob (loadV 1 false st.H x31) fun x32 => ob (binV cfg.P (opAt n60_20 2) .eql 3 (.int .i64) x32 (.d (.int .i64 1))) fun x33 => gC x33 (none) ((some (.normal, [(0, x0), (3, x3), (4, x4), (5, x5), (6, tt)], st) : Res)) (ob (addrV 0 x4) fun x35 => ob (loadV 1 false st.H x35) fun x36 => ob (binV cfg.P (opAt n60_20 6) .eql 3 (.int .i64) x36 (.d (.int .i64 10))) fun x37 => (some (.normal, [(0, x0), (3, x3), (4, x4), (5, x5), (6, x37)], st) : Res)) :=
  (runI_reg (c := n60_20) (id := 6) (ops := opsOf n60_20) (draw := false) (by kernel_rfl)).trans (by kernel_rfl)
@[simp] theorem e60_21 (fr : Fr) (st : St) : runI cfg 60 n60_21 fr st = thenR cfg 60 n60_23 (runI cfg 60 n60_22 fr st) := run_seq (by kernel_rfl)
@[simp] theorem e60_22 (fr : Fr) (st : St) : runI cfg 60 n60_22 fr st = ob (lookF fr 0) fun x0 => ob (lookF fr 3) fun x3 => ob (lookF fr 4) fun x4 => ob (lookF fr 5) fun x5 => ob (lookF fr 6) fun x6 => (some (.normal, [(0, x0), (3, x3), (4, x4), (5, x5), (6, x6), (7, (.d (.int .i64 0)))], st) : Res) :=
  (runI_reg (c := n60_22) (id := 7) (ops := opsOf n60_22) (draw := false) (by kernel_rfl)).trans (by kernel_rfl)
@[simp] theorem e60_23 (fr : Fr) (st : St) : runI cfg 60 n60_23 fr st = thenR cfg 60 n60_29 (runI cfg 60 n60_24 fr st) := run_seq (by kernel_rfl)
@[simp] theorem e60_24 (fr : Fr) (st : St) : runI cfg 60 n60_24 fr st = thenR cfg 60 n60_26 (runI cfg 60 n60_25 fr st) := run_seq (by kernel_rfl)
@[simp] theorem e60_25 (fr : Fr) (st : St) : runI cfg 60 n60_25 fr st = ob (lookF fr 0) fun x0 => ob (lookF fr 3) fun x3 => ob (lookF fr 4) fun x4 => ob (lookF fr 5) fun x5 => ob (lookF fr 6) fun x6 => ob (lookF fr 7) fun x7 => ob (addrV 0 x4) fun x39 => ob (loadV 1 false st.H x39) fun x40 => ob (binV cfg.P (opAt n60_25 2) .eql 3 (.int .i64) x40 (.d (.int .i64 2))) fun x41 => (some (.normal, [(0, x0), (3, x3), (4, x4), (5, x5), (6, x6), (7, x7), (41, x41)], st) : Res) :=
  (runI_reg (c := n60_25) (id := 8) (ops := opsOf n60_25) (draw := false) (by kernel_rfl)).trans (by kernel_rfl)
@[simp] theorem e60_26 (fr : Fr) (st : St) : runI cfg 60 n60_26 fr st = ob (lookF fr 41) fun v => gC v none (runI cfg 60 n60_27 fr st) (runI cfg 60 n60_28 fr st) := run_cond (x := .tmp 41) (by kernel_rfl)
@[simp] theorem e60_27 (fr : Fr) (st : St) : runI cfg 60 n60_27 fr st = ob (lookF fr 0) fun x0 => ob (lookF fr 3) fun x3 => ob (lookF fr 4) fun x4 => ob (lookF fr 5) fun x5 => ob (lookF fr 6) fun x6 => (some (.normal, [(0, x0), (3, x3), (4, x4), (5, x5), (6, x6), (7, (.d (.int .i64 15)))], st) : Res) :=
  (runI_reg (c := n60_27) (id := 9) (ops := opsOf n60_27) (draw := false) (by kernel_rfl)).trans (by kernel_rfl)
@[simp] theorem e60_28 (fr : Fr) (st : St) : runI cfg 60 n60_28 fr st = some (.normal, fr, st) := run_skip (by kernel_rfl)
@[simp] theorem e60_29 (fr : Fr) (st : St) : runI cfg 60 n60_29 fr st = thenR cfg 60 n60_35 (runI cfg 60 n60_30 fr st) := run_seq (by kernel_rfl)
@[simp] theorem e60_30 (fr : Fr) (st : St) : runI cfg 60 n60_30 fr st = thenR cfg 60 n60_32 (runI cfg 60 n60_31 fr st) := run_seq (by kernel_rfl)
@[simp] theorem e60_31 (fr : Fr) (st : St) : runI cfg 60 n60_31 fr st = ob (lookF fr 0) fun x0 => ob (lookF fr 3) fun x3 => ob (lookF fr 4) fun x4 => ob (lookF fr 5) fun x5 => ob (lookF fr 6) fun x6 => ob (lookF fr 7) fun x7 => ob (addrV 0 x4) fun x42 => ob (loadV 1 false st.H x42) fun x43 => ob (binV cfg.P (opAt n60_31 2) .eql 3 (.int .i64) x43 (.d (.int .i64 7))) fun x44 => gC x44 (none) ((some (.normal, [(0, x0), (3, x3), (4, x4), (5, x5), (6, x6), (7, x7), (49, tt)], st) : Res)) (ob (addrV 0 x4) fun x46 => ob (loadV 1 false st.H x46) fun x47 => ob (binV cfg.P (opAt n60_31 6) .eql 3 (.int .i64) x47 (.d (.int .i64 8))) fun x48 => (some (.normal, [(0, x0), (3, x3), (4, x4), (5, x5), (6, x6), (7, x7), (49, x48)], st) : Res)) :=
  (runI_reg (c := n60_31) (id := 10) (ops := opsOf n60_31) (draw := false) (by kernel_rfl)).trans (by kernel_rfl)
@[simp] theorem e60_32 (fr : Fr) (st : St) : runI cfg 60 n60_32 fr st = ob (lookF fr 49) fun v => gC v none (runI cfg 60 n60_33 fr st) (runI cfg 60 n60_34 fr st) := run_cond (x := .tmp 49) (by kernel_rfl)
@[simp] theorem e60_33 (fr : Fr) (st : St) : runI cfg 60 n60_33 fr st = ob (lookF fr 0) fun x0 => ob (lookF fr 3) fun x3 => ob (lookF fr 4) fun x4 => ob (lookF fr 5) fun x5 => ob (lookF fr 6) fun x6 => (some (.normal, [(0, x0), (3, x3), (4, x4), (5, x5), (6, x6), (7, (.d (.int .i64 999)))], st) : Res) :=
  (runI_reg (c := n60_33) (id := 11) (ops := opsOf n60_33) (draw := false) (by kernel_rfl)).trans (by kernel_rfl)
@[simp] theorem e60_34 (fr : Fr) (st : St) : runI cfg 60 n60_34 fr st = some (.normal, fr, st) := run_skip (by kernel_rfl)
@[simp] theorem e60_35 (fr : Fr) (st : St) : runI cfg 60 n60_35 fr st = thenR cfg 60 n60_37 (runI cfg 60 n60_36 fr st) := run_seq (by kernel_rfl)
@[simp] theorem e60_36 (fr : Fr) (st : St) : runI cfg 60 n60_36 fr st = ob (lookF fr 0) fun x0 => ob (lookF fr 3) fun x3 => ob (lookF fr 4) fun x4 => ob (lookF fr 5) fun x5 => ob (lookF fr 6) fun x6 => ob (lookF fr 7) fun x7 => ob (addrV 0 x4) fun x50 => ob (loadV 1 false st.H x50) fun x51 => ob (binV cfg.P (opAt n60_36 2) .lss 3 (.int .i64) x51 (.d (.int .i64 1))) fun x52 => gC x52 (none) ((some (.normal, [(0, x0), (3, x3), (89, tt)], st) : Res)) (ob (addrV 0 x4) fun x54 => ob (loadV 1 false st.H x54) fun x55 => ob (binV cfg.P (opAt n60_36 6) .gtr 3 (.int .i64) x55 (.d (.int .i64 11))) fun x56 => gC x56 (none) ((some (.normal, [(0, x0), (3, x3), (89, tt)], st) : Res)) (ob (binV cfg.P (opAt n60_36 11) .eql 3 (.int .i64) x3 (.d (.int .i64 0))) fun x61 => ob (binV cfg.P (opAt n60_36 12) .neq 4 .bool x5 x61) fun x62 => gC x62 (none) ((some (.normal, [(0, x0), (3, x3), (89, tt)], st) : Res)) (ob (addrV 1 x4) fun x65 => ob (loadV 1 false st.H x65) fun x66 => ob (binV cfg.P (opAt n60_36 17) .lss 3 (.int .i64) x66 (.d (.int .i64 0))) fun x67 => gC x67 (none) ((some (.normal, [(0, x0), (3, x3), (89, tt)], st) : Res)) (ob (addrV 1 x4) fun x70 => ob (loadV 1 false st.H x70) fun x71 => ob (binV cfg.P (opAt n60_36 23) .gtr 3 (.int .i64) x71 x7) fun x73 => gC x73 (none) ((some (.normal, [(0, x0), (3, x3), (89, tt)], st) : Res)) (ob (addrV 2 x4) fun x76 => ob (loadV 1 false st.H x76) fun x77 => ob (callI cfg 83 [x77] st) fun r28 => ob (notV cfg.P (opAt n60_36 29) .not r28.1) fun x79 => gC x79 (none) ((some (.normal, [(0, x0), (3, x3), (89, tt)], r28.2) : Res)) (ob (notV cfg.P (opAt n60_36 33) .not x6) fun x83 => gC x83 (none) (ob (addrV 2 x4) fun x85 => ob (loadV 1 false r28.2.H x85) fun x86 => ob (binV cfg.P (opAt n60_36 37) .neq 9 .string x86 (.d (.string ByteArray.empty))) fun x87 => (some (.normal, [(0, x0), (3, x3), (89, x87)], r28.2) : Res)) ((some (.normal, [(0, x0), (3, x3), (89, ff)], r28.2) : Res)))))))) :=
  (runI_reg (c := n60_36) (id := 12) (ops := opsOf n60_36) (draw := false) (by kernel_rfl)).trans (by kernel_rfl)
@[simp] theorem e60_37 (fr : Fr) (st : St) : runI cfg 60 n60_37 fr st = ob (lookF fr 89) fun v => gC v none (runI cfg 60 n60_38 fr st) (runI cfg 60 n60_41 fr st) := run_cond (x := .tmp 89) (by kernel_rfl)
@[simp] theorem e60_38 (fr : Fr) (st : St) : runI cfg 60 n60_38 fr st = thenR cfg 60 n60_40 (runI cfg 60 n60_39 fr st) := run_seq (by kernel_rfl)
@[simp] theorem e60_39 (fr : Fr) (st : St) : runI cfg 60 n60_39 fr st = (some (.normal, [(2, ff)], st) : Res) :=
  (runI_reg (c := n60_39) (id := 13) (ops := opsOf n60_39) (draw := false) (by kernel_rfl)).trans (by kernel_rfl)
@[simp] theorem e60_40 (fr : Fr) (st : St) : runI cfg 60 n60_40 fr st = some (.ret, fr, st) := run_ret (by kernel_rfl)
@[simp] theorem e60_41 (fr : Fr) (st : St) : runI cfg 60 n60_41 fr st = some (.normal, fr, st) := run_skip (by kernel_rfl)
@[simp] theorem e60_42 (fr : Fr) (st : St) : runI cfg 60 n60_42 fr st = ob (lookF fr 0) fun x0 => ob (lookF fr 3) fun x3 => ob (binV cfg.P (opAt n60_42 1) .add 3 (.int .i64) x3 (.d (.int .i64 1))) fun x13 => (some (.normal, [(0, x0), (3, x13)], st) : Res) :=
  (runI_reg (c := n60_42) (id := 3) (ops := opsOf n60_42) (draw := false) (by kernel_rfl)).trans (by kernel_rfl)
@[simp] theorem e60_43 (fr : Fr) (st : St) : runI cfg 60 n60_43 fr st = thenR cfg 60 n60_45 (runI cfg 60 n60_44 fr st) := run_seq (by kernel_rfl)
@[simp] theorem e60_44 (fr : Fr) (st : St) : runI cfg 60 n60_44 fr st = ob (lookF fr 0) fun x0 => ob (lenV (.slice 47) st.H x0) fun x91 => ob (binV cfg.P (opAt n60_44 2) .geq 3 (.int .i64) x91 (.d (.int .i64 1))) fun x92 => gC x92 (none) (ob (lenV (.slice 47) st.H x0) fun x95 => ob (binV cfg.P (opAt n60_44 6) .leq 3 (.int .i64) x95 (.d (.int .i64 8))) fun x96 => (some (.normal, [(2, x96)], st) : Res)) ((some (.normal, [(2, ff)], st) : Res)) :=
  (runI_reg (c := n60_44) (id := 14) (ops := opsOf n60_44) (draw := false) (by kernel_rfl)).trans (by kernel_rfl)
@[simp] theorem e60_45 (fr : Fr) (st : St) : runI cfg 60 n60_45 fr st = some (.ret, fr, st) := run_ret (by kernel_rfl)
@[simp] theorem z60 (fr : Fr) (st : St) : endR cfg Try.f60 (some (.ret, fr, st)) = ob (lookF fr 2) fun x0 => some (x0, st) := end_r.trans (by kernel_rfl)
@[simp] theorem w60 (fr : Fr) (st : St) : endR cfg Try.f60 (some (.normal, fr, st)) = ob (lookF fr 2) fun x0 => some (x0, st) := end_n.trans (by kernel_rfl)
theorem c60 (ts : List T) (st : St) : callI cfg 60 ts st = ob (closeAll ts) fun ts => backR st (endR cfg Try.f60 (runI cfg 60 n60_0 (enumF 0 ts) ⟨[], []⟩)) := call_pure (by kernel_rfl) (by kernel_rfl) (by kernel_rfl) (by kernel_rfl)
/-! 61: fettle.fettleref4.changed -/
noncomputable def n61_0 : Code := codeB Try.f61
noncomputable def n61_1 : Code := kid n61_0 false
noncomputable def n61_2 : Code := kid n61_0 true
noncomputable def n61_3 : Code := kid n61_2 false
noncomputable def n61_4 : Code := kid n61_2 true
noncomputable def n61_5 : Code := kid n61_4 false
noncomputable def n61_6 : Code := kid n61_5 false
noncomputable def n61_7 : Code := kid n61_5 true
noncomputable def n61_8 : Code := kid n61_7 false
noncomputable def n61_9 : Code := kid n61_8 false
noncomputable def n61_10 : Code := kid n61_8 true
noncomputable def n61_11 : Code := kid n61_10 false
noncomputable def n61_12 : Code := kid n61_11 false
noncomputable def n61_13 : Code := kid n61_11 true
noncomputable def n61_14 : Code := kid n61_10 true
noncomputable def n61_15 : Code := kid n61_14 false
noncomputable def n61_16 : Code := kid n61_14 true
noncomputable def n61_17 : Code := kid n61_16 false
noncomputable def n61_18 : Code := kid n61_17 false
noncomputable def n61_19 : Code := kid n61_18 false
noncomputable def n61_20 : Code := kid n61_18 true
noncomputable def n61_21 : Code := kid n61_20 false
noncomputable def n61_22 : Code := kid n61_21 false
noncomputable def n61_23 : Code := kid n61_21 true
noncomputable def n61_24 : Code := kid n61_20 true
noncomputable def n61_25 : Code := kid n61_17 true
noncomputable def n61_26 : Code := kid n61_25 false
noncomputable def n61_27 : Code := kid n61_25 true
noncomputable def n61_28 : Code := kid n61_16 true
noncomputable def n61_29 : Code := kid n61_28 false
noncomputable def n61_30 : Code := kid n61_28 true
noncomputable def n61_31 : Code := kid n61_30 false
noncomputable def n61_32 : Code := kid n61_31 false
noncomputable def n61_33 : Code := kid n61_31 true
noncomputable def n61_34 : Code := kid n61_33 false
noncomputable def n61_35 : Code := kid n61_34 false
noncomputable def n61_36 : Code := kid n61_35 false
noncomputable def n61_37 : Code := kid n61_36 false
noncomputable def n61_38 : Code := kid n61_36 true
noncomputable def n61_39 : Code := kid n61_38 false
noncomputable def n61_40 : Code := kid n61_38 true
noncomputable def n61_41 : Code := kid n61_35 true
noncomputable def n61_42 : Code := kid n61_41 false
noncomputable def n61_43 : Code := kid n61_42 false
noncomputable def n61_44 : Code := kid n61_41 true
noncomputable def n61_45 : Code := kid n61_30 true
noncomputable def n61_46 : Code := kid n61_45 false
noncomputable def n61_47 : Code := kid n61_46 false
noncomputable def n61_48 : Code := kid n61_46 true
noncomputable def n61_49 : Code := kid n61_48 false
noncomputable def n61_50 : Code := kid n61_48 true
noncomputable def n61_51 : Code := kid n61_45 true
noncomputable def n61_52 : Code := kid n61_51 false
noncomputable def n61_53 : Code := kid n61_52 false
noncomputable def n61_54 : Code := kid n61_52 true
noncomputable def n61_55 : Code := kid n61_54 false
noncomputable def n61_56 : Code := kid n61_55 false
noncomputable def n61_57 : Code := kid n61_56 false
noncomputable def n61_58 : Code := kid n61_57 false
noncomputable def n61_59 : Code := kid n61_57 true
noncomputable def n61_60 : Code := kid n61_59 false
noncomputable def n61_61 : Code := kid n61_59 true
noncomputable def n61_62 : Code := kid n61_56 true
noncomputable def n61_63 : Code := kid n61_62 false
noncomputable def n61_64 : Code := kid n61_63 false
noncomputable def n61_65 : Code := kid n61_64 false
noncomputable def n61_66 : Code := kid n61_64 true
noncomputable def n61_67 : Code := kid n61_66 false
noncomputable def n61_68 : Code := kid n61_67 false
noncomputable def n61_69 : Code := kid n61_67 true
noncomputable def n61_70 : Code := kid n61_69 false
noncomputable def n61_71 : Code := kid n61_69 true
noncomputable def n61_72 : Code := kid n61_66 true
noncomputable def n61_73 : Code := kid n61_72 false
noncomputable def n61_74 : Code := kid n61_73 false
noncomputable def n61_75 : Code := kid n61_73 true
noncomputable def n61_76 : Code := kid n61_75 false
noncomputable def n61_77 : Code := kid n61_75 true
noncomputable def n61_78 : Code := kid n61_72 true
noncomputable def n61_79 : Code := kid n61_62 true
noncomputable def n61_80 : Code := kid n61_51 true
noncomputable def n61_81 : Code := kid n61_80 false
noncomputable def n61_82 : Code := kid n61_80 true
noncomputable def n61_83 : Code := kid n61_82 false
noncomputable def n61_84 : Code := kid n61_83 false
noncomputable def n61_85 : Code := kid n61_83 true
noncomputable def n61_86 : Code := kid n61_85 false
noncomputable def n61_87 : Code := kid n61_86 false
noncomputable def n61_88 : Code := kid n61_87 false
noncomputable def n61_89 : Code := kid n61_88 false
noncomputable def n61_90 : Code := kid n61_88 true
noncomputable def n61_91 : Code := kid n61_90 false
noncomputable def n61_92 : Code := kid n61_90 true
noncomputable def n61_93 : Code := kid n61_87 true
noncomputable def n61_94 : Code := kid n61_93 false
noncomputable def n61_95 : Code := kid n61_94 false
noncomputable def n61_96 : Code := kid n61_93 true
noncomputable def n61_97 : Code := kid n61_82 true
noncomputable def n61_98 : Code := kid n61_97 false
noncomputable def n61_99 : Code := kid n61_97 true
noncomputable def n61_100 : Code := kid n61_99 false
noncomputable def n61_101 : Code := kid n61_99 true
noncomputable def n61_102 : Code := kid n61_101 false
noncomputable def n61_103 : Code := kid n61_101 true
noncomputable def n61_104 : Code := kid n61_103 false
noncomputable def n61_105 : Code := kid n61_103 true
noncomputable def n61_106 : Code := kid n61_105 false
noncomputable def n61_107 : Code := kid n61_105 true
noncomputable def n61_108 : Code := kid n61_107 false
noncomputable def n61_109 : Code := kid n61_107 true
noncomputable def n61_110 : Code := kid n61_109 false
noncomputable def n61_111 : Code := kid n61_109 true
noncomputable def n61_112 : Code := kid n61_111 false
noncomputable def n61_113 : Code := kid n61_112 false
noncomputable def n61_114 : Code := kid n61_112 true
noncomputable def n61_115 : Code := kid n61_114 false
noncomputable def n61_116 : Code := kid n61_115 false
noncomputable def n61_117 : Code := kid n61_116 false
noncomputable def n61_118 : Code := kid n61_117 false
noncomputable def n61_119 : Code := kid n61_117 true
noncomputable def n61_120 : Code := kid n61_119 false
noncomputable def n61_121 : Code := kid n61_119 true
noncomputable def n61_122 : Code := kid n61_116 true
noncomputable def n61_123 : Code := kid n61_122 false
noncomputable def n61_124 : Code := kid n61_123 false
noncomputable def n61_125 : Code := kid n61_124 false
noncomputable def n61_126 : Code := kid n61_125 false
noncomputable def n61_127 : Code := kid n61_125 true
noncomputable def n61_128 : Code := kid n61_127 false
noncomputable def n61_129 : Code := kid n61_127 true
noncomputable def n61_130 : Code := kid n61_124 true
noncomputable def n61_131 : Code := kid n61_122 true
noncomputable def n61_132 : Code := kid n61_111 true
noncomputable def n61_133 : Code := kid n61_132 false
noncomputable def n61_134 : Code := kid n61_132 true
noncomputable def n61_135 : Code := kid n61_134 false
noncomputable def n61_136 : Code := kid n61_135 false
noncomputable def n61_137 : Code := kid n61_135 true
noncomputable def n61_138 : Code := kid n61_134 true
noncomputable def n61_139 : Code := kid n61_4 true
noncomputable def n61_140 : Code := kid n61_139 false
noncomputable def n61_141 : Code := kid n61_139 true
@[simp] theorem e61_0 (fr : Fr) (st : St) : runI cfg 61 n61_0 fr st = thenR cfg 61 n61_2 (runI cfg 61 n61_1 fr st) := run_seq (by kernel_rfl)
@[simp] theorem e61_1 (fr : Fr) (st : St) : runI cfg 61 n61_1 fr st = ob (lookF fr 0) fun x0 => ob (lookF fr 1) fun x1 => ob (lookF fr 2) fun x2 => gt ((T.cells x0).all T.one = true) ((some (.normal, [(1, x1), (2, x2), (3, (.ptr st.H.length 0))], ⟨(st.H ++ [.cells (T.cells x0)]), st.E⟩) : Res)) :=
  (runI_reg (c := n61_1) (id := 0) (ops := opsOf n61_1) (draw := false) (by kernel_rfl)).trans (by kernel_rfl)
@[simp] theorem e61_2 (fr : Fr) (st : St) : runI cfg 61 n61_2 fr st = thenR cfg 61 n61_4 (runI cfg 61 n61_3 fr st) := run_seq (by kernel_rfl)
@[simp] theorem e61_3 (fr : Fr) (st : St) : runI cfg 61 n61_3 fr st = ob (lookF fr 1) fun x1 => ob (lookF fr 2) fun x2 => ob (lookF fr 3) fun x3 => (some (.normal, [(1, x1), (2, x2), (3, x3), (8, nilS)], st) : Res) :=
  (runI_reg (c := n61_3) (id := 1) (ops := opsOf n61_3) (draw := false) (by kernel_rfl)).trans (by kernel_rfl)
@[simp] theorem e61_4 (fr : Fr) (st : St) : runI cfg 61 n61_4 fr st = thenR cfg 61 n61_139 (runI cfg 61 n61_5 fr st) := run_seq (by kernel_rfl)
@[simp] theorem e61_5 (fr : Fr) (st : St) : runI cfg 61 n61_5 fr st = thenR cfg 61 n61_7 (runI cfg 61 n61_6 fr st) := run_seq (by kernel_rfl)
@[simp] theorem e61_6 (fr : Fr) (st : St) : runI cfg 61 n61_6 fr st = ob (lookF fr 1) fun x1 => ob (lookF fr 2) fun x2 => ob (lookF fr 3) fun x3 => ob (lookF fr 8) fun x8 => ob (addrV 0 x3) fun x14 => ob (loadV 1 false st.H x14) fun x15 => (some (.normal, [(1, x1), (2, x2), (3, x3), (8, x8), (15, x15)], st) : Res) :=
  (runI_reg (c := n61_6) (id := 2) (ops := opsOf n61_6) (draw := false) (by kernel_rfl)).trans (by kernel_rfl)
@[simp] theorem e61_7 (fr : Fr) (st : St) : runI cfg 61 n61_7 fr st = blockI 0 (runI cfg 61 n61_8 fr st) := run_block (by kernel_rfl)
@[simp] theorem e61_8 (fr : Fr) (st : St) : runI cfg 61 n61_8 fr st = thenR cfg 61 n61_10 (runI cfg 61 n61_9 fr st) := run_seq (by kernel_rfl)
@[simp] theorem e61_9 (fr : Fr) (st : St) : runI cfg 61 n61_9 fr st = ob (lookF fr 1) fun x1 => ob (lookF fr 2) fun x2 => ob (lookF fr 3) fun x3 => ob (lookF fr 8) fun x8 => ob (lookF fr 15) fun x15 => ob (binV cfg.P (opAt n61_9 0) .eql 3 (.int .i64) x15 (.d (.int .i64 1))) fun x17 => (some (.normal, [(1, x1), (2, x2), (3, x3), (8, x8), (15, x15), (16, x17)], st) : Res) :=
  (runI_reg (c := n61_9) (id := 3) (ops := opsOf n61_9) (draw := false) (by kernel_rfl)).trans (by kernel_rfl)
@[simp] theorem e61_10 (fr : Fr) (st : St) : runI cfg 61 n61_10 fr st = ob (lookF fr 16) fun v => gC v none (runI cfg 61 n61_11 fr st) (runI cfg 61 n61_14 fr st) := run_cond (x := .tmp 16) (by kernel_rfl)
@[simp] theorem e61_11 (fr : Fr) (st : St) : runI cfg 61 n61_11 fr st = thenR cfg 61 n61_13 (runI cfg 61 n61_12 fr st) := run_seq (by kernel_rfl)
@[simp] theorem e61_12 (fr : Fr) (st : St) : runI cfg 61 n61_12 fr st = ob (lookF fr 3) fun x3 => ob (addrV 2 x3) fun x18 => ob (loadV 1 false st.H x18) fun x19 => ob (convV cfg.P (opAt n61_12 2) false (some .string) (some (.slice 5)) none (some (.int .u8)) x19) fun x20 => (some (.normal, [(6, x20), (7, tt)], st) : Res) :=
  (runI_reg (c := n61_12) (id := 4) (ops := opsOf n61_12) (draw := false) (by kernel_rfl)).trans (by kernel_rfl)
@[simp] theorem e61_13 (fr : Fr) (st : St) : runI cfg 61 n61_13 fr st = some (.ret, fr, st) := run_ret (by kernel_rfl)
@[simp] theorem e61_14 (fr : Fr) (st : St) : runI cfg 61 n61_14 fr st = thenR cfg 61 n61_16 (runI cfg 61 n61_15 fr st) := run_seq (by kernel_rfl)
@[simp] theorem e61_15 (fr : Fr) (st : St) : runI cfg 61 n61_15 fr st = ob (lookF fr 1) fun x1 => ob (lookF fr 2) fun x2 => ob (lookF fr 3) fun x3 => ob (lookF fr 8) fun x8 => ob (lookF fr 15) fun x15 => ob (binV cfg.P (opAt n61_15 0) .eql 3 (.int .i64) x15 (.d (.int .i64 2))) fun x22 => (some (.normal, [(1, x1), (2, x2), (3, x3), (8, x8), (15, x15), (21, x22)], st) : Res) :=
  (runI_reg (c := n61_15) (id := 5) (ops := opsOf n61_15) (draw := false) (by kernel_rfl)).trans (by kernel_rfl)
@[simp] theorem e61_16 (fr : Fr) (st : St) : runI cfg 61 n61_16 fr st = ob (lookF fr 21) fun v => gC v none (runI cfg 61 n61_17 fr st) (runI cfg 61 n61_28 fr st) := run_cond (x := .tmp 21) (by kernel_rfl)
@[simp] theorem e61_17 (fr : Fr) (st : St) : runI cfg 61 n61_17 fr st = thenR cfg 61 n61_25 (runI cfg 61 n61_18 fr st) := run_seq (by kernel_rfl)
@[simp] theorem e61_18 (fr : Fr) (st : St) : runI cfg 61 n61_18 fr st = thenR cfg 61 n61_20 (runI cfg 61 n61_19 fr st) := run_seq (by kernel_rfl)
@[simp] theorem e61_19 (fr : Fr) (st : St) : runI cfg 61 n61_19 fr st = ob (lookF fr 2) fun x2 => ob (lookF fr 3) fun x3 => ob (addrV 1 x3) fun x23 => ob (loadV 1 false st.H x23) fun x24 => ob (lenV (.slice 31) st.H x2) fun x26 => ob (binV cfg.P (opAt n61_19 4) .geq 3 (.int .i64) x24 x26) fun x27 => (some (.normal, [(2, x2), (3, x3), (27, x27)], st) : Res) :=
  (runI_reg (c := n61_19) (id := 6) (ops := opsOf n61_19) (draw := false) (by kernel_rfl)).trans (by kernel_rfl)
@[simp] theorem e61_20 (fr : Fr) (st : St) : runI cfg 61 n61_20 fr st = ob (lookF fr 27) fun v => gC v none (runI cfg 61 n61_21 fr st) (runI cfg 61 n61_24 fr st) := run_cond (x := .tmp 27) (by kernel_rfl)
@[simp] theorem e61_21 (fr : Fr) (st : St) : runI cfg 61 n61_21 fr st = thenR cfg 61 n61_23 (runI cfg 61 n61_22 fr st) := run_seq (by kernel_rfl)
@[simp] theorem e61_22 (fr : Fr) (st : St) : runI cfg 61 n61_22 fr st = (some (.normal, [(6, nilS), (7, ff)], st) : Res) :=
  (runI_reg (c := n61_22) (id := 7) (ops := opsOf n61_22) (draw := false) (by kernel_rfl)).trans (by kernel_rfl)
@[simp] theorem e61_23 (fr : Fr) (st : St) : runI cfg 61 n61_23 fr st = some (.ret, fr, st) := run_ret (by kernel_rfl)
@[simp] theorem e61_24 (fr : Fr) (st : St) : runI cfg 61 n61_24 fr st = some (.normal, fr, st) := run_skip (by kernel_rfl)
@[simp] theorem e61_25 (fr : Fr) (st : St) : runI cfg 61 n61_25 fr st = thenR cfg 61 n61_27 (runI cfg 61 n61_26 fr st) := run_seq (by kernel_rfl)
@[simp] theorem e61_26 (fr : Fr) (st : St) : runI cfg 61 n61_26 fr st = ob (lookF fr 2) fun x2 => ob (lookF fr 3) fun x3 => ob (fillA 1 (repeatL [(.d (.int .u8 0))] 0) []) fun c0 => ob (T.toDs c0) fun d0 => ob (addrV 1 x3) fun x30 => ob (loadV 1 false st.H x30) fun x31 => ob (ixV 1 x2 x31) fun x32 => ob (loadV 1 false st.H x32) fun x33 => ob (appV 1 1 st (.sl false 0 d0 .lit) x33) fun a6 => (some (.normal, [(6, a6.1), (7, tt)], ⟨st.H, a6.2⟩) : Res) :=
  (runI_reg (c := n61_26) (id := 8) (ops := opsOf n61_26) (draw := false) (by kernel_rfl)).trans (by kernel_rfl)
@[simp] theorem e61_27 (fr : Fr) (st : St) : runI cfg 61 n61_27 fr st = some (.ret, fr, st) := run_ret (by kernel_rfl)
@[simp] theorem e61_28 (fr : Fr) (st : St) : runI cfg 61 n61_28 fr st = thenR cfg 61 n61_30 (runI cfg 61 n61_29 fr st) := run_seq (by kernel_rfl)
@[simp] theorem e61_29 (fr : Fr) (st : St) : runI cfg 61 n61_29 fr st = ob (lookF fr 1) fun x1 => ob (lookF fr 2) fun x2 => ob (lookF fr 3) fun x3 => ob (lookF fr 8) fun x8 => ob (lookF fr 15) fun x15 => ob (binV cfg.P (opAt n61_29 0) .eql 3 (.int .i64) x15 (.d (.int .i64 3))) fun x36 => (some (.normal, [(1, x1), (2, x2), (3, x3), (8, x8), (15, x15), (35, x36)], st) : Res) :=
  (runI_reg (c := n61_29) (id := 9) (ops := opsOf n61_29) (draw := false) (by kernel_rfl)).trans (by kernel_rfl)
@[simp] theorem e61_30 (fr : Fr) (st : St) : runI cfg 61 n61_30 fr st = ob (lookF fr 35) fun v => gC v none (runI cfg 61 n61_31 fr st) (runI cfg 61 n61_45 fr st) := run_cond (x := .tmp 35) (by kernel_rfl)
@[simp] theorem e61_31 (fr : Fr) (st : St) : runI cfg 61 n61_31 fr st = thenR cfg 61 n61_33 (runI cfg 61 n61_32 fr st) := run_seq (by kernel_rfl)
@[simp] theorem e61_32 (fr : Fr) (st : St) : runI cfg 61 n61_32 fr st = ob (lookF fr 2) fun x2 => ob (lookF fr 8) fun x8 => (some (.normal, [(2, x2), (8, x8), (9, (.d (.int .i64 0)))], st) : Res) :=
  (runI_reg (c := n61_32) (id := 10) (ops := opsOf n61_32) (draw := false) (by kernel_rfl)).trans (by kernel_rfl)
@[simp] theorem e61_33 (fr : Fr) (st : St) : runI cfg 61 n61_33 fr st = blockI 1 (runI cfg 61 n61_34 fr st) := run_block (by kernel_rfl)
theorem l61_34 (fr : Fr) (st : St) : runI cfg 61 n61_34 fr st = loopR cfg 61 n61_34 st.H.length (runI cfg 61 n61_35 fr st) := run_loop (by kernel_rfl)
@[simp] theorem e61_35 (fr : Fr) (st : St) : runI cfg 61 n61_35 fr st = thenR cfg 61 n61_41 (runI cfg 61 n61_36 fr st) := run_seq (by kernel_rfl)
@[simp] theorem e61_36 (fr : Fr) (st : St) : runI cfg 61 n61_36 fr st = thenR cfg 61 n61_38 (runI cfg 61 n61_37 fr st) := run_seq (by kernel_rfl)
@[simp] theorem e61_37 (fr : Fr) (st : St) : runI cfg 61 n61_37 fr st = ob (lookF fr 2) fun x2 => ob (lookF fr 8) fun x8 => ob (lookF fr 9) fun x9 => ob (lenV (.slice 31) st.H x2) fun x39 => ob (binV cfg.P (opAt n61_37 3) .lss 3 (.int .i64) x9 x39) fun x40 => (some (.normal, [(2, x2), (8, x8), (9, x9), (40, x40)], st) : Res) :=
  (runI_reg (c := n61_37) (id := 11) (ops := opsOf n61_37) (draw := false) (by kernel_rfl)).trans (by kernel_rfl)
@[simp] theorem e61_38 (fr : Fr) (st : St) : runI cfg 61 n61_38 fr st = ob (lookF fr 40) fun v => gC v none (runI cfg 61 n61_39 fr st) (runI cfg 61 n61_40 fr st) := run_cond (x := .tmp 40) (by kernel_rfl)
@[simp] theorem e61_39 (fr : Fr) (st : St) : runI cfg 61 n61_39 fr st = some (.normal, fr, st) := run_skip (by kernel_rfl)
@[simp] theorem e61_40 (fr : Fr) (st : St) : runI cfg 61 n61_40 fr st = some (.exit 1, fr, st) := run_exit (by kernel_rfl)
@[simp] theorem e61_41 (fr : Fr) (st : St) : runI cfg 61 n61_41 fr st = thenR cfg 61 n61_44 (runI cfg 61 n61_42 fr st) := run_seq (by kernel_rfl)
@[simp] theorem e61_42 (fr : Fr) (st : St) : runI cfg 61 n61_42 fr st = blockI 2 (runI cfg 61 n61_43 fr st) := run_block (by kernel_rfl)
@[simp] theorem e61_43 (fr : Fr) (st : St) : runI cfg 61 n61_43 fr st = ob (lookF fr 2) fun x2 => ob (lookF fr 8) fun x8 => ob (lookF fr 9) fun x9 => ob (ixV 1 x2 x9) fun x46 => ob (loadV 1 false st.H x46) fun x47 => ob (appV 1 1 st x8 x47) fun a5 => (some (.normal, [(2, x2), (8, a5.1), (9, x9)], ⟨st.H, a5.2⟩) : Res) :=
  (runI_reg (c := n61_43) (id := 13) (ops := opsOf n61_43) (draw := false) (by kernel_rfl)).trans (by kernel_rfl)
@[simp] theorem e61_44 (fr : Fr) (st : St) : runI cfg 61 n61_44 fr st = ob (lookF fr 2) fun x2 => ob (lookF fr 8) fun x8 => ob (lookF fr 9) fun x9 => ob (binV cfg.P (opAt n61_44 1) .add 3 (.int .i64) x9 (.d (.int .i64 1))) fun x42 => (some (.normal, [(2, x2), (8, x8), (9, x42)], st) : Res) :=
  (runI_reg (c := n61_44) (id := 12) (ops := opsOf n61_44) (draw := false) (by kernel_rfl)).trans (by kernel_rfl)
@[simp] theorem e61_45 (fr : Fr) (st : St) : runI cfg 61 n61_45 fr st = thenR cfg 61 n61_51 (runI cfg 61 n61_46 fr st) := run_seq (by kernel_rfl)
@[simp] theorem e61_46 (fr : Fr) (st : St) : runI cfg 61 n61_46 fr st = thenR cfg 61 n61_48 (runI cfg 61 n61_47 fr st) := run_seq (by kernel_rfl)
@[simp] theorem e61_47 (fr : Fr) (st : St) : runI cfg 61 n61_47 fr st = ob (lookF fr 1) fun x1 => ob (lookF fr 3) fun x3 => ob (lookF fr 8) fun x8 => ob (lookF fr 15) fun x15 => ob (binV cfg.P (opAt n61_47 0) .eql 3 (.int .i64) x15 (.d (.int .i64 4))) fun x50 => (some (.normal, [(1, x1), (3, x3), (8, x8), (15, x15), (49, x50)], st) : Res) :=
  (runI_reg (c := n61_47) (id := 14) (ops := opsOf n61_47) (draw := false) (by kernel_rfl)).trans (by kernel_rfl)
@[simp] theorem e61_48 (fr : Fr) (st : St) : runI cfg 61 n61_48 fr st = ob (lookF fr 49) fun v => gC v none (runI cfg 61 n61_49 fr st) (runI cfg 61 n61_50 fr st) := run_cond (x := .tmp 49) (by kernel_rfl)
@[simp] theorem e61_49 (fr : Fr) (st : St) : runI cfg 61 n61_49 fr st = some (.normal, fr, st) := run_skip (by kernel_rfl)
@[simp] theorem e61_50 (fr : Fr) (st : St) : runI cfg 61 n61_50 fr st = ob (lookF fr 1) fun x1 => ob (lookF fr 3) fun x3 => ob (lookF fr 8) fun x8 => ob (lookF fr 15) fun x15 => ob (binV cfg.P (opAt n61_50 0) .eql 3 (.int .i64) x15 (.d (.int .i64 5))) fun x51 => (some (.normal, [(1, x1), (3, x3), (8, x8), (15, x15), (49, x51)], st) : Res) :=
  (runI_reg (c := n61_50) (id := 15) (ops := opsOf n61_50) (draw := false) (by kernel_rfl)).trans (by kernel_rfl)
@[simp] theorem e61_51 (fr : Fr) (st : St) : runI cfg 61 n61_51 fr st = ob (lookF fr 49) fun v => gC v none (runI cfg 61 n61_52 fr st) (runI cfg 61 n61_80 fr st) := run_cond (x := .tmp 49) (by kernel_rfl)
@[simp] theorem e61_52 (fr : Fr) (st : St) : runI cfg 61 n61_52 fr st = thenR cfg 61 n61_54 (runI cfg 61 n61_53 fr st) := run_seq (by kernel_rfl)
@[simp] theorem e61_53 (fr : Fr) (st : St) : runI cfg 61 n61_53 fr st = ob (lookF fr 1) fun x1 => ob (lookF fr 3) fun x3 => ob (lookF fr 8) fun x8 => (some (.normal, [(1, x1), (3, x3), (8, x8), (10, (.d (.int .i64 0)))], st) : Res) :=
  (runI_reg (c := n61_53) (id := 16) (ops := opsOf n61_53) (draw := false) (by kernel_rfl)).trans (by kernel_rfl)
@[simp] theorem e61_54 (fr : Fr) (st : St) : runI cfg 61 n61_54 fr st = blockI 3 (runI cfg 61 n61_55 fr st) := run_block (by kernel_rfl)
theorem l61_55 (fr : Fr) (st : St) : runI cfg 61 n61_55 fr st = loopR cfg 61 n61_55 st.H.length (runI cfg 61 n61_56 fr st) := run_loop (by kernel_rfl)
@[simp] theorem e61_56 (fr : Fr) (st : St) : runI cfg 61 n61_56 fr st = thenR cfg 61 n61_62 (runI cfg 61 n61_57 fr st) := run_seq (by kernel_rfl)
@[simp] theorem e61_57 (fr : Fr) (st : St) : runI cfg 61 n61_57 fr st = thenR cfg 61 n61_59 (runI cfg 61 n61_58 fr st) := run_seq (by kernel_rfl)
@[simp] theorem e61_58 (fr : Fr) (st : St) : runI cfg 61 n61_58 fr st = ob (lookF fr 1) fun x1 => ob (lookF fr 3) fun x3 => ob (lookF fr 8) fun x8 => ob (lookF fr 10) fun x10 => ob (lenV (.slice 5) st.H x1) fun x54 => ob (binV cfg.P (opAt n61_58 3) .lss 3 (.int .i64) x10 x54) fun x55 => (some (.normal, [(1, x1), (3, x3), (8, x8), (10, x10), (55, x55)], st) : Res) :=
  (runI_reg (c := n61_58) (id := 17) (ops := opsOf n61_58) (draw := false) (by kernel_rfl)).trans (by kernel_rfl)
@[simp] theorem e61_59 (fr : Fr) (st : St) : runI cfg 61 n61_59 fr st = ob (lookF fr 55) fun v => gC v none (runI cfg 61 n61_60 fr st) (runI cfg 61 n61_61 fr st) := run_cond (x := .tmp 55) (by kernel_rfl)
@[simp] theorem e61_60 (fr : Fr) (st : St) : runI cfg 61 n61_60 fr st = some (.normal, fr, st) := run_skip (by kernel_rfl)
@[simp] theorem e61_61 (fr : Fr) (st : St) : runI cfg 61 n61_61 fr st = some (.exit 3, fr, st) := run_exit (by kernel_rfl)
@[simp] theorem e61_62 (fr : Fr) (st : St) : runI cfg 61 n61_62 fr st = thenR cfg 61 n61_79 (runI cfg 61 n61_63 fr st) := run_seq (by kernel_rfl)
@[simp] theorem e61_63 (fr : Fr) (st : St) : runI cfg 61 n61_63 fr st = blockI 4 (runI cfg 61 n61_64 fr st) := run_block (by kernel_rfl)
@[simp] theorem e61_64 (fr : Fr) (st : St) : runI cfg 61 n61_64 fr st = thenR cfg 61 n61_66 (runI cfg 61 n61_65 fr st) := run_seq (by kernel_rfl)
@[simp] theorem e61_65 (fr : Fr) (st : St) : runI cfg 61 n61_65 fr st = ob (lookF fr 1) fun x1 => ob (lookF fr 3) fun x3 => ob (lookF fr 8) fun x8 => ob (lookF fr 10) fun x10 => ob (ixV 1 x1 x10) fun x60 => ob (loadV 1 false st.H x60) fun x61 => (some (.normal, [(1, x1), (3, x3), (8, x8), (10, x10), (11, x61)], st) : Res) :=
  (runI_reg (c := n61_65) (id := 19) (ops := opsOf n61_65) (draw := false) (by kernel_rfl)).trans (by kernel_rfl)
@[simp] theorem e61_66 (fr : Fr) (st : St) : runI cfg 61 n61_66 fr st = thenR cfg 61 n61_72 (runI cfg 61 n61_67 fr st) := run_seq (by kernel_rfl)
@[simp] theorem e61_67 (fr : Fr) (st : St) : runI cfg 61 n61_67 fr st = thenR cfg 61 n61_69 (runI cfg 61 n61_68 fr st) := run_seq (by kernel_rfl)
@[simp] theorem e61_68 (fr : Fr) (st : St) : runI cfg 61 n61_68 fr st = ob (lookF fr 1) fun x1 => ob (lookF fr 3) fun x3 => ob (lookF fr 8) fun x8 => ob (lookF fr 10) fun x10 => ob (lookF fr 11) fun x11 => ob (addrV 0 x3) fun x62 => ob (loadV 1 false st.H x62) fun x63 => ob (binV cfg.P (opAt n61_68 2) .eql 3 (.int .i64) x63 (.d (.int .i64 4))) fun x64 => gC x64 (none) (ob (binV cfg.P (opAt n61_68 5) .geq 5 (.int .u8) x11 (.d (.int .u8 97))) fun x67 => gC x67 (none) (ob (binV cfg.P (opAt n61_68 9) .leq 5 (.int .u8) x11 (.d (.int .u8 122))) fun x71 => (some (.normal, [(1, x1), (3, x3), (8, x8), (10, x10), (11, x11), (72, x71)], st) : Res)) ((some (.normal, [(1, x1), (3, x3), (8, x8), (10, x10), (11, x11), (72, ff)], st) : Res))) ((some (.normal, [(1, x1), (3, x3), (8, x8), (10, x10), (11, x11), (72, ff)], st) : Res)) :=
  (runI_reg (c := n61_68) (id := 20) (ops := opsOf n61_68) (draw := false) (by kernel_rfl)).trans (by kernel_rfl)
@[simp] theorem e61_69 (fr : Fr) (st : St) : runI cfg 61 n61_69 fr st = ob (lookF fr 72) fun v => gC v none (runI cfg 61 n61_70 fr st) (runI cfg 61 n61_71 fr st) := run_cond (x := .tmp 72) (by kernel_rfl)
@[simp] theorem e61_70 (fr : Fr) (st : St) : runI cfg 61 n61_70 fr st = ob (lookF fr 1) fun x1 => ob (lookF fr 3) fun x3 => ob (lookF fr 8) fun x8 => ob (lookF fr 10) fun x10 => ob (lookF fr 11) fun x11 => ob (binV cfg.P (opAt n61_70 1) .sub 5 (.int .u8) x11 (.d (.int .u8 32))) fun x74 => (some (.normal, [(1, x1), (3, x3), (8, x8), (10, x10), (11, x74)], st) : Res) :=
  (runI_reg (c := n61_70) (id := 21) (ops := opsOf n61_70) (draw := false) (by kernel_rfl)).trans (by kernel_rfl)
@[simp] theorem e61_71 (fr : Fr) (st : St) : runI cfg 61 n61_71 fr st = some (.normal, fr, st) := run_skip (by kernel_rfl)
@[simp] theorem e61_72 (fr : Fr) (st : St) : runI cfg 61 n61_72 fr st = thenR cfg 61 n61_78 (runI cfg 61 n61_73 fr st) := run_seq (by kernel_rfl)
@[simp] theorem e61_73 (fr : Fr) (st : St) : runI cfg 61 n61_73 fr st = thenR cfg 61 n61_75 (runI cfg 61 n61_74 fr st) := run_seq (by kernel_rfl)
@[simp] theorem e61_74 (fr : Fr) (st : St) : runI cfg 61 n61_74 fr st = ob (lookF fr 1) fun x1 => ob (lookF fr 3) fun x3 => ob (lookF fr 8) fun x8 => ob (lookF fr 10) fun x10 => ob (lookF fr 11) fun x11 => ob (addrV 0 x3) fun x75 => ob (loadV 1 false st.H x75) fun x76 => ob (binV cfg.P (opAt n61_74 2) .eql 3 (.int .i64) x76 (.d (.int .i64 5))) fun x77 => gC x77 (none) (ob (binV cfg.P (opAt n61_74 5) .geq 5 (.int .u8) x11 (.d (.int .u8 65))) fun x80 => gC x80 (none) (ob (binV cfg.P (opAt n61_74 9) .leq 5 (.int .u8) x11 (.d (.int .u8 90))) fun x84 => (some (.normal, [(1, x1), (3, x3), (8, x8), (10, x10), (11, x11), (85, x84)], st) : Res)) ((some (.normal, [(1, x1), (3, x3), (8, x8), (10, x10), (11, x11), (85, ff)], st) : Res))) ((some (.normal, [(1, x1), (3, x3), (8, x8), (10, x10), (11, x11), (85, ff)], st) : Res)) :=
  (runI_reg (c := n61_74) (id := 22) (ops := opsOf n61_74) (draw := false) (by kernel_rfl)).trans (by kernel_rfl)
@[simp] theorem e61_75 (fr : Fr) (st : St) : runI cfg 61 n61_75 fr st = ob (lookF fr 85) fun v => gC v none (runI cfg 61 n61_76 fr st) (runI cfg 61 n61_77 fr st) := run_cond (x := .tmp 85) (by kernel_rfl)
@[simp] theorem e61_76 (fr : Fr) (st : St) : runI cfg 61 n61_76 fr st = ob (lookF fr 1) fun x1 => ob (lookF fr 3) fun x3 => ob (lookF fr 8) fun x8 => ob (lookF fr 10) fun x10 => ob (lookF fr 11) fun x11 => ob (binV cfg.P (opAt n61_76 1) .add 5 (.int .u8) x11 (.d (.int .u8 32))) fun x87 => (some (.normal, [(1, x1), (3, x3), (8, x8), (10, x10), (11, x87)], st) : Res) :=
  (runI_reg (c := n61_76) (id := 23) (ops := opsOf n61_76) (draw := false) (by kernel_rfl)).trans (by kernel_rfl)
@[simp] theorem e61_77 (fr : Fr) (st : St) : runI cfg 61 n61_77 fr st = some (.normal, fr, st) := run_skip (by kernel_rfl)
@[simp] theorem e61_78 (fr : Fr) (st : St) : runI cfg 61 n61_78 fr st = ob (lookF fr 1) fun x1 => ob (lookF fr 3) fun x3 => ob (lookF fr 8) fun x8 => ob (lookF fr 10) fun x10 => ob (lookF fr 11) fun x11 => ob (fillA 1 (repeatL [(.d (.int .u8 0))] 1) [(0, x11)]) fun c2 => ob (T.toDs c2) fun d2 => ob (appV 1 1 st x8 (.sl false 1 d2 .lit)) fun a3 => (some (.normal, [(1, x1), (3, x3), (8, a3.1), (10, x10)], ⟨st.H, a3.2⟩) : Res) :=
  (runI_reg (c := n61_78) (id := 24) (ops := opsOf n61_78) (draw := false) (by kernel_rfl)).trans (by kernel_rfl)
@[simp] theorem e61_79 (fr : Fr) (st : St) : runI cfg 61 n61_79 fr st = ob (lookF fr 1) fun x1 => ob (lookF fr 3) fun x3 => ob (lookF fr 8) fun x8 => ob (lookF fr 10) fun x10 => ob (binV cfg.P (opAt n61_79 1) .add 3 (.int .i64) x10 (.d (.int .i64 1))) fun x57 => (some (.normal, [(1, x1), (3, x3), (8, x8), (10, x57)], st) : Res) :=
  (runI_reg (c := n61_79) (id := 18) (ops := opsOf n61_79) (draw := false) (by kernel_rfl)).trans (by kernel_rfl)
@[simp] theorem e61_80 (fr : Fr) (st : St) : runI cfg 61 n61_80 fr st = thenR cfg 61 n61_82 (runI cfg 61 n61_81 fr st) := run_seq (by kernel_rfl)
@[simp] theorem e61_81 (fr : Fr) (st : St) : runI cfg 61 n61_81 fr st = ob (lookF fr 1) fun x1 => ob (lookF fr 3) fun x3 => ob (lookF fr 8) fun x8 => ob (lookF fr 15) fun x15 => ob (binV cfg.P (opAt n61_81 0) .eql 3 (.int .i64) x15 (.d (.int .i64 6))) fun x93 => (some (.normal, [(1, x1), (3, x3), (8, x8), (15, x15), (92, x93)], st) : Res) :=
  (runI_reg (c := n61_81) (id := 25) (ops := opsOf n61_81) (draw := false) (by kernel_rfl)).trans (by kernel_rfl)
@[simp] theorem e61_82 (fr : Fr) (st : St) : runI cfg 61 n61_82 fr st = ob (lookF fr 92) fun v => gC v none (runI cfg 61 n61_83 fr st) (runI cfg 61 n61_97 fr st) := run_cond (x := .tmp 92) (by kernel_rfl)
@[simp] theorem e61_83 (fr : Fr) (st : St) : runI cfg 61 n61_83 fr st = thenR cfg 61 n61_85 (runI cfg 61 n61_84 fr st) := run_seq (by kernel_rfl)
@[simp] theorem e61_84 (fr : Fr) (st : St) : runI cfg 61 n61_84 fr st = ob (lookF fr 1) fun x1 => ob (lookF fr 8) fun x8 => ob (lenV (.slice 5) st.H x1) fun x95 => ob (binV cfg.P (opAt n61_84 2) .sub 3 (.int .i64) x95 (.d (.int .i64 1))) fun x96 => (some (.normal, [(1, x1), (8, x8), (12, x96)], st) : Res) :=
  (runI_reg (c := n61_84) (id := 26) (ops := opsOf n61_84) (draw := false) (by kernel_rfl)).trans (by kernel_rfl)
@[simp] theorem e61_85 (fr : Fr) (st : St) : runI cfg 61 n61_85 fr st = blockI 5 (runI cfg 61 n61_86 fr st) := run_block (by kernel_rfl)
theorem l61_86 (fr : Fr) (st : St) : runI cfg 61 n61_86 fr st = loopR cfg 61 n61_86 st.H.length (runI cfg 61 n61_87 fr st) := run_loop (by kernel_rfl)
@[simp] theorem e61_87 (fr : Fr) (st : St) : runI cfg 61 n61_87 fr st = thenR cfg 61 n61_93 (runI cfg 61 n61_88 fr st) := run_seq (by kernel_rfl)
@[simp] theorem e61_88 (fr : Fr) (st : St) : runI cfg 61 n61_88 fr st = thenR cfg 61 n61_90 (runI cfg 61 n61_89 fr st) := run_seq (by kernel_rfl)
@[simp] theorem e61_89 (fr : Fr) (st : St) : runI cfg 61 n61_89 fr st = ob (lookF fr 1) fun x1 => ob (lookF fr 8) fun x8 => ob (lookF fr 12) fun x12 => ob (binV cfg.P (opAt n61_89 1) .geq 3 (.int .i64) x12 (.d (.int .i64 0))) fun x98 => (some (.normal, [(1, x1), (8, x8), (12, x12), (98, x98)], st) : Res) :=
  (runI_reg (c := n61_89) (id := 27) (ops := opsOf n61_89) (draw := false) (by kernel_rfl)).trans (by kernel_rfl)
@[simp] theorem e61_90 (fr : Fr) (st : St) : runI cfg 61 n61_90 fr st = ob (lookF fr 98) fun v => gC v none (runI cfg 61 n61_91 fr st) (runI cfg 61 n61_92 fr st) := run_cond (x := .tmp 98) (by kernel_rfl)
@[simp] theorem e61_91 (fr : Fr) (st : St) : runI cfg 61 n61_91 fr st = some (.normal, fr, st) := run_skip (by kernel_rfl)
@[simp] theorem e61_92 (fr : Fr) (st : St) : runI cfg 61 n61_92 fr st = some (.exit 5, fr, st) := run_exit (by kernel_rfl)
@[simp] theorem e61_93 (fr : Fr) (st : St) : runI cfg 61 n61_93 fr st = thenR cfg 61 n61_96 (runI cfg 61 n61_94 fr st) := run_seq (by kernel_rfl)
@[simp] theorem e61_94 (fr : Fr) (st : St) : runI cfg 61 n61_94 fr st = blockI 6 (runI cfg 61 n61_95 fr st) := run_block (by kernel_rfl)
@[simp] theorem e61_95 (fr : Fr) (st : St) : runI cfg 61 n61_95 fr st = ob (lookF fr 1) fun x1 => ob (lookF fr 8) fun x8 => ob (lookF fr 12) fun x12 => ob (ixV 1 x1 x12) fun x104 => ob (loadV 1 false st.H x104) fun x105 => ob (fillA 1 (repeatL [(.d (.int .u8 0))] 1) [(0, x105)]) fun c5 => ob (T.toDs c5) fun d5 => ob (appV 1 1 st x8 (.sl false 1 d5 .lit)) fun a6 => (some (.normal, [(1, x1), (8, a6.1), (12, x12)], ⟨st.H, a6.2⟩) : Res) :=
  (runI_reg (c := n61_95) (id := 29) (ops := opsOf n61_95) (draw := false) (by kernel_rfl)).trans (by kernel_rfl)
@[simp] theorem e61_96 (fr : Fr) (st : St) : runI cfg 61 n61_96 fr st = ob (lookF fr 1) fun x1 => ob (lookF fr 8) fun x8 => ob (lookF fr 12) fun x12 => ob (binV cfg.P (opAt n61_96 1) .sub 3 (.int .i64) x12 (.d (.int .i64 1))) fun x100 => (some (.normal, [(1, x1), (8, x8), (12, x100)], st) : Res) :=
  (runI_reg (c := n61_96) (id := 28) (ops := opsOf n61_96) (draw := false) (by kernel_rfl)).trans (by kernel_rfl)
@[simp] theorem e61_97 (fr : Fr) (st : St) : runI cfg 61 n61_97 fr st = thenR cfg 61 n61_99 (runI cfg 61 n61_98 fr st) := run_seq (by kernel_rfl)
@[simp] theorem e61_98 (fr : Fr) (st : St) : runI cfg 61 n61_98 fr st = ob (lookF fr 1) fun x1 => ob (lookF fr 3) fun x3 => ob (lookF fr 8) fun x8 => ob (lookF fr 15) fun x15 => ob (binV cfg.P (opAt n61_98 0) .eql 3 (.int .i64) x15 (.d (.int .i64 7))) fun x109 => (some (.normal, [(1, x1), (3, x3), (8, x8), (15, x15), (108, x109)], st) : Res) :=
  (runI_reg (c := n61_98) (id := 30) (ops := opsOf n61_98) (draw := false) (by kernel_rfl)).trans (by kernel_rfl)
@[simp] theorem e61_99 (fr : Fr) (st : St) : runI cfg 61 n61_99 fr st = ob (lookF fr 108) fun v => gC v none (runI cfg 61 n61_100 fr st) (runI cfg 61 n61_101 fr st) := run_cond (x := .tmp 108) (by kernel_rfl)
@[simp] theorem e61_100 (fr : Fr) (st : St) : runI cfg 61 n61_100 fr st = ob (lookF fr 1) fun x1 => ob (lookF fr 3) fun x3 => ob (lookF fr 8) fun x8 => ob (addrV 1 x3) fun x112 => ob (loadV 1 false st.H x112) fun x113 => ob (lenV (.slice 5) st.H x1) fun x115 => ob (minmaxV false x113 x115) fun x116 => ob (sliceV (.slice 5) (some 1) x1 none (some x116) none) fun x117 => ob (appV 1 1 st x8 x117) fun a8 => (some (.normal, [(8, a8.1)], ⟨st.H, a8.2⟩) : Res) :=
  (runI_reg (c := n61_100) (id := 31) (ops := opsOf n61_100) (draw := false) (by kernel_rfl)).trans (by kernel_rfl)
@[simp] theorem e61_101 (fr : Fr) (st : St) : runI cfg 61 n61_101 fr st = thenR cfg 61 n61_103 (runI cfg 61 n61_102 fr st) := run_seq (by kernel_rfl)
@[simp] theorem e61_102 (fr : Fr) (st : St) : runI cfg 61 n61_102 fr st = ob (lookF fr 1) fun x1 => ob (lookF fr 3) fun x3 => ob (lookF fr 8) fun x8 => ob (lookF fr 15) fun x15 => ob (binV cfg.P (opAt n61_102 0) .eql 3 (.int .i64) x15 (.d (.int .i64 8))) fun x120 => (some (.normal, [(1, x1), (3, x3), (8, x8), (15, x15), (119, x120)], st) : Res) :=
  (runI_reg (c := n61_102) (id := 32) (ops := opsOf n61_102) (draw := false) (by kernel_rfl)).trans (by kernel_rfl)
@[simp] theorem e61_103 (fr : Fr) (st : St) : runI cfg 61 n61_103 fr st = ob (lookF fr 119) fun v => gC v none (runI cfg 61 n61_104 fr st) (runI cfg 61 n61_105 fr st) := run_cond (x := .tmp 119) (by kernel_rfl)
@[simp] theorem e61_104 (fr : Fr) (st : St) : runI cfg 61 n61_104 fr st = ob (lookF fr 1) fun x1 => ob (lookF fr 3) fun x3 => ob (lookF fr 8) fun x8 => ob (addrV 1 x3) fun x123 => ob (loadV 1 false st.H x123) fun x124 => ob (lenV (.slice 5) st.H x1) fun x126 => ob (minmaxV false x124 x126) fun x127 => ob (sliceV (.slice 5) (some 1) x1 (some x127) none none) fun x128 => ob (appV 1 1 st x8 x128) fun a8 => (some (.normal, [(8, a8.1)], ⟨st.H, a8.2⟩) : Res) :=
  (runI_reg (c := n61_104) (id := 33) (ops := opsOf n61_104) (draw := false) (by kernel_rfl)).trans (by kernel_rfl)
@[simp] theorem e61_105 (fr : Fr) (st : St) : runI cfg 61 n61_105 fr st = thenR cfg 61 n61_107 (runI cfg 61 n61_106 fr st) := run_seq (by kernel_rfl)
@[simp] theorem e61_106 (fr : Fr) (st : St) : runI cfg 61 n61_106 fr st = ob (lookF fr 1) fun x1 => ob (lookF fr 3) fun x3 => ob (lookF fr 8) fun x8 => ob (lookF fr 15) fun x15 => ob (binV cfg.P (opAt n61_106 0) .eql 3 (.int .i64) x15 (.d (.int .i64 9))) fun x131 => (some (.normal, [(1, x1), (3, x3), (8, x8), (15, x15), (130, x131)], st) : Res) :=
  (runI_reg (c := n61_106) (id := 34) (ops := opsOf n61_106) (draw := false) (by kernel_rfl)).trans (by kernel_rfl)
@[simp] theorem e61_107 (fr : Fr) (st : St) : runI cfg 61 n61_107 fr st = ob (lookF fr 130) fun v => gC v none (runI cfg 61 n61_108 fr st) (runI cfg 61 n61_109 fr st) := run_cond (x := .tmp 130) (by kernel_rfl)
@[simp] theorem e61_108 (fr : Fr) (st : St) : runI cfg 61 n61_108 fr st = ob (lookF fr 1) fun x1 => ob (lookF fr 8) fun x8 => ob (appV 1 1 st x8 x1) fun a2 => ob (appV 1 1 ⟨st.H, a2.2⟩ a2.1 x1) fun a4 => (some (.normal, [(8, a4.1)], ⟨st.H, a4.2⟩) : Res) :=
  (runI_reg (c := n61_108) (id := 35) (ops := opsOf n61_108) (draw := false) (by kernel_rfl)).trans (by kernel_rfl)
@[simp] theorem e61_109 (fr : Fr) (st : St) : runI cfg 61 n61_109 fr st = thenR cfg 61 n61_111 (runI cfg 61 n61_110 fr st) := run_seq (by kernel_rfl)
@[simp] theorem e61_110 (fr : Fr) (st : St) : runI cfg 61 n61_110 fr st = ob (lookF fr 1) fun x1 => ob (lookF fr 3) fun x3 => ob (lookF fr 8) fun x8 => ob (lookF fr 15) fun x15 => ob (binV cfg.P (opAt n61_110 0) .eql 3 (.int .i64) x15 (.d (.int .i64 10))) fun x138 => (some (.normal, [(1, x1), (3, x3), (8, x8), (15, x15), (137, x138)], st) : Res) :=
  (runI_reg (c := n61_110) (id := 36) (ops := opsOf n61_110) (draw := false) (by kernel_rfl)).trans (by kernel_rfl)
@[simp] theorem e61_111 (fr : Fr) (st : St) : runI cfg 61 n61_111 fr st = ob (lookF fr 137) fun v => gC v none (runI cfg 61 n61_112 fr st) (runI cfg 61 n61_132 fr st) := run_cond (x := .tmp 137) (by kernel_rfl)
@[simp] theorem e61_112 (fr : Fr) (st : St) : runI cfg 61 n61_112 fr st = thenR cfg 61 n61_114 (runI cfg 61 n61_113 fr st) := run_seq (by kernel_rfl)
@[simp] theorem e61_113 (fr : Fr) (st : St) : runI cfg 61 n61_113 fr st = ob (lookF fr 1) fun x1 => ob (lookF fr 3) fun x3 => ob (lookF fr 8) fun x8 => (some (.normal, [(1, x1), (3, x3), (8, x8), (13, (.d (.int .i64 0)))], st) : Res) :=
  (runI_reg (c := n61_113) (id := 37) (ops := opsOf n61_113) (draw := false) (by kernel_rfl)).trans (by kernel_rfl)
@[simp] theorem e61_114 (fr : Fr) (st : St) : runI cfg 61 n61_114 fr st = blockI 7 (runI cfg 61 n61_115 fr st) := run_block (by kernel_rfl)
theorem l61_115 (fr : Fr) (st : St) : runI cfg 61 n61_115 fr st = loopR cfg 61 n61_115 st.H.length (runI cfg 61 n61_116 fr st) := run_loop (by kernel_rfl)
@[simp] theorem e61_116 (fr : Fr) (st : St) : runI cfg 61 n61_116 fr st = thenR cfg 61 n61_122 (runI cfg 61 n61_117 fr st) := run_seq (by kernel_rfl)
@[simp] theorem e61_117 (fr : Fr) (st : St) : runI cfg 61 n61_117 fr st = thenR cfg 61 n61_119 (runI cfg 61 n61_118 fr st) := run_seq (by kernel_rfl)
@[simp] theorem e61_118 (fr : Fr) (st : St) : runI cfg 61 n61_118 fr st = ob (lookF fr 1) fun x1 => ob (lookF fr 3) fun x3 => ob (lookF fr 8) fun x8 => ob (lookF fr 13) fun x13 => ob (lenV (.slice 5) st.H x1) fun x141 => ob (binV cfg.P (opAt n61_118 3) .lss 3 (.int .i64) x13 x141) fun x142 => (some (.normal, [(1, x1), (3, x3), (8, x8), (13, x13), (142, x142)], st) : Res) :=
  (runI_reg (c := n61_118) (id := 38) (ops := opsOf n61_118) (draw := false) (by kernel_rfl)).trans (by kernel_rfl)
@[simp] theorem e61_119 (fr : Fr) (st : St) : runI cfg 61 n61_119 fr st = ob (lookF fr 142) fun v => gC v none (runI cfg 61 n61_120 fr st) (runI cfg 61 n61_121 fr st) := run_cond (x := .tmp 142) (by kernel_rfl)
@[simp] theorem e61_120 (fr : Fr) (st : St) : runI cfg 61 n61_120 fr st = some (.normal, fr, st) := run_skip (by kernel_rfl)
@[simp] theorem e61_121 (fr : Fr) (st : St) : runI cfg 61 n61_121 fr st = some (.exit 7, fr, st) := run_exit (by kernel_rfl)
@[simp] theorem e61_122 (fr : Fr) (st : St) : runI cfg 61 n61_122 fr st = thenR cfg 61 n61_131 (runI cfg 61 n61_123 fr st) := run_seq (by kernel_rfl)
@[simp] theorem e61_123 (fr : Fr) (st : St) : runI cfg 61 n61_123 fr st = blockI 8 (runI cfg 61 n61_124 fr st) := run_block (by kernel_rfl)
@[simp] theorem e61_124 (fr : Fr) (st : St) : runI cfg 61 n61_124 fr st = thenR cfg 61 n61_130 (runI cfg 61 n61_125 fr st) := run_seq (by kernel_rfl)
@[simp] theorem e61_125 (fr : Fr) (st : St) : runI cfg 61 n61_125 fr st = thenR cfg 61 n61_127 (runI cfg 61 n61_126 fr st) := run_seq (by kernel_rfl)
@[simp] theorem e61_126 (fr : Fr) (st : St) : runI cfg 61 n61_126 fr st = ob (lookF fr 1) fun x1 => ob (lookF fr 3) fun x3 => ob (lookF fr 8) fun x8 => ob (lookF fr 13) fun x13 => ob (binV cfg.P (opAt n61_126 1) .gtr 3 (.int .i64) x13 (.d (.int .i64 0))) fun x146 => (some (.normal, [(1, x1), (3, x3), (8, x8), (13, x13), (146, x146)], st) : Res) :=
  (runI_reg (c := n61_126) (id := 40) (ops := opsOf n61_126) (draw := false) (by kernel_rfl)).trans (by kernel_rfl)
@[simp] theorem e61_127 (fr : Fr) (st : St) : runI cfg 61 n61_127 fr st = ob (lookF fr 146) fun v => gC v none (runI cfg 61 n61_128 fr st) (runI cfg 61 n61_129 fr st) := run_cond (x := .tmp 146) (by kernel_rfl)
@[simp] theorem e61_128 (fr : Fr) (st : St) : runI cfg 61 n61_128 fr st = ob (lookF fr 1) fun x1 => ob (lookF fr 3) fun x3 => ob (lookF fr 8) fun x8 => ob (lookF fr 13) fun x13 => ob (addrV 2 x3) fun x148 => ob (loadV 1 false st.H x148) fun x149 => ob (appV 1 1 st x8 x149) fun a3 => (some (.normal, [(1, x1), (3, x3), (8, a3.1), (13, x13)], ⟨st.H, a3.2⟩) : Res) :=
  (runI_reg (c := n61_128) (id := 41) (ops := opsOf n61_128) (draw := false) (by kernel_rfl)).trans (by kernel_rfl)
@[simp] theorem e61_129 (fr : Fr) (st : St) : runI cfg 61 n61_129 fr st = some (.normal, fr, st) := run_skip (by kernel_rfl)
@[simp] theorem e61_130 (fr : Fr) (st : St) : runI cfg 61 n61_130 fr st = ob (lookF fr 1) fun x1 => ob (lookF fr 3) fun x3 => ob (lookF fr 8) fun x8 => ob (lookF fr 13) fun x13 => ob (ixV 1 x1 x13) fun x154 => ob (loadV 1 false st.H x154) fun x155 => ob (fillA 1 (repeatL [(.d (.int .u8 0))] 1) [(0, x155)]) fun c5 => ob (T.toDs c5) fun d5 => ob (appV 1 1 st x8 (.sl false 1 d5 .lit)) fun a6 => (some (.normal, [(1, x1), (3, x3), (8, a6.1), (13, x13)], ⟨st.H, a6.2⟩) : Res) :=
  (runI_reg (c := n61_130) (id := 42) (ops := opsOf n61_130) (draw := false) (by kernel_rfl)).trans (by kernel_rfl)
@[simp] theorem e61_131 (fr : Fr) (st : St) : runI cfg 61 n61_131 fr st = ob (lookF fr 1) fun x1 => ob (lookF fr 3) fun x3 => ob (lookF fr 8) fun x8 => ob (lookF fr 13) fun x13 => ob (binV cfg.P (opAt n61_131 1) .add 3 (.int .i64) x13 (.d (.int .i64 1))) fun x144 => (some (.normal, [(1, x1), (3, x3), (8, x8), (13, x144)], st) : Res) :=
  (runI_reg (c := n61_131) (id := 39) (ops := opsOf n61_131) (draw := false) (by kernel_rfl)).trans (by kernel_rfl)
@[simp] theorem e61_132 (fr : Fr) (st : St) : runI cfg 61 n61_132 fr st = thenR cfg 61 n61_134 (runI cfg 61 n61_133 fr st) := run_seq (by kernel_rfl)
@[simp] theorem e61_133 (fr : Fr) (st : St) : runI cfg 61 n61_133 fr st = ob (lookF fr 8) fun x8 => ob (lookF fr 15) fun x15 => ob (binV cfg.P (opAt n61_133 0) .eql 3 (.int .i64) x15 (.d (.int .i64 11))) fun x159 => (some (.normal, [(8, x8), (158, x159)], st) : Res) :=
  (runI_reg (c := n61_133) (id := 43) (ops := opsOf n61_133) (draw := false) (by kernel_rfl)).trans (by kernel_rfl)
@[simp] theorem e61_134 (fr : Fr) (st : St) : runI cfg 61 n61_134 fr st = ob (lookF fr 158) fun v => gC v none (runI cfg 61 n61_135 fr st) (runI cfg 61 n61_138 fr st) := run_cond (x := .tmp 158) (by kernel_rfl)
@[simp] theorem e61_135 (fr : Fr) (st : St) : runI cfg 61 n61_135 fr st = thenR cfg 61 n61_137 (runI cfg 61 n61_136 fr st) := run_seq (by kernel_rfl)
@[simp] theorem e61_136 (fr : Fr) (st : St) : runI cfg 61 n61_136 fr st = (some (.normal, [(6, nilS), (7, ff)], st) : Res) :=
  (runI_reg (c := n61_136) (id := 44) (ops := opsOf n61_136) (draw := false) (by kernel_rfl)).trans (by kernel_rfl)
@[simp] theorem e61_137 (fr : Fr) (st : St) : runI cfg 61 n61_137 fr st = some (.ret, fr, st) := run_ret (by kernel_rfl)
@[simp] theorem e61_138 (fr : Fr) (st : St) : runI cfg 61 n61_138 fr st = some (.normal, fr, st) := run_skip (by kernel_rfl)
@[simp] theorem e61_139 (fr : Fr) (st : St) : runI cfg 61 n61_139 fr st = thenR cfg 61 n61_141 (runI cfg 61 n61_140 fr st) := run_seq (by kernel_rfl)
@[simp] theorem e61_140 (fr : Fr) (st : St) : runI cfg 61 n61_140 fr st = ob (lookF fr 8) fun x8 => (some (.normal, [(6, x8), (7, tt)], st) : Res) :=
  (runI_reg (c := n61_140) (id := 45) (ops := opsOf n61_140) (draw := false) (by kernel_rfl)).trans (by kernel_rfl)
@[simp] theorem e61_141 (fr : Fr) (st : St) : runI cfg 61 n61_141 fr st = some (.ret, fr, st) := run_ret (by kernel_rfl)
@[simp] theorem z61 (fr : Fr) (st : St) : endR cfg Try.f61 (some (.ret, fr, st)) = ob (lookF fr 6) fun x0 => ob (lookF fr 7) fun x1 => some (.tup [x0, x1], st) := end_r.trans (by kernel_rfl)
@[simp] theorem w61 (fr : Fr) (st : St) : endR cfg Try.f61 (some (.normal, fr, st)) = ob (lookF fr 6) fun x0 => ob (lookF fr 7) fun x1 => some (.tup [x0, x1], st) := end_n.trans (by kernel_rfl)
theorem c61 (ts : List T) (st : St) : callI cfg 61 ts st = ob (closeAll ts) fun ts => backR st (endR cfg Try.f61 (runI cfg 61 n61_0 (enumF 0 ts) ⟨[], []⟩)) := call_pure (by kernel_rfl) (by kernel_rfl) (by kernel_rfl) (by kernel_rfl)
/-! 83: fettle.fettleref4.plain -/
noncomputable def n83_0 : Code := codeB Try.f83
noncomputable def n83_1 : Code := kid n83_0 false
noncomputable def n83_2 : Code := kid n83_0 true
noncomputable def n83_3 : Code := kid n83_2 false
noncomputable def n83_4 : Code := kid n83_3 false
noncomputable def n83_5 : Code := kid n83_3 true
noncomputable def n83_6 : Code := kid n83_5 false
noncomputable def n83_7 : Code := kid n83_6 false
noncomputable def n83_8 : Code := kid n83_7 false
noncomputable def n83_9 : Code := kid n83_8 false
noncomputable def n83_10 : Code := kid n83_8 true
noncomputable def n83_11 : Code := kid n83_10 false
noncomputable def n83_12 : Code := kid n83_10 true
noncomputable def n83_13 : Code := kid n83_7 true
noncomputable def n83_14 : Code := kid n83_13 false
noncomputable def n83_15 : Code := kid n83_14 false
noncomputable def n83_16 : Code := kid n83_15 false
noncomputable def n83_17 : Code := kid n83_15 true
noncomputable def n83_18 : Code := kid n83_17 false
noncomputable def n83_19 : Code := kid n83_18 false
noncomputable def n83_20 : Code := kid n83_18 true
noncomputable def n83_21 : Code := kid n83_17 true
noncomputable def n83_22 : Code := kid n83_13 true
noncomputable def n83_23 : Code := kid n83_2 true
noncomputable def n83_24 : Code := kid n83_23 false
noncomputable def n83_25 : Code := kid n83_23 true
@[simp] theorem e83_0 (fr : Fr) (st : St) : runI cfg 83 n83_0 fr st = thenR cfg 83 n83_2 (runI cfg 83 n83_1 fr st) := run_seq (by kernel_rfl)
@[simp] theorem e83_1 (fr : Fr) (st : St) : runI cfg 83 n83_1 fr st = ob (lookF fr 0) fun x0 => (some (.normal, [(0, x0)], st) : Res) :=
  (runI_reg (c := n83_1) (id := 0) (ops := opsOf n83_1) (draw := false) (by kernel_rfl)).trans (by kernel_rfl)
@[simp] theorem e83_2 (fr : Fr) (st : St) : runI cfg 83 n83_2 fr st = thenR cfg 83 n83_23 (runI cfg 83 n83_3 fr st) := run_seq (by kernel_rfl)
@[simp] theorem e83_3 (fr : Fr) (st : St) : runI cfg 83 n83_3 fr st = thenR cfg 83 n83_5 (runI cfg 83 n83_4 fr st) := run_seq (by kernel_rfl)
@[simp] theorem e83_4 (fr : Fr) (st : St) : runI cfg 83 n83_4 fr st = ob (lookF fr 0) fun x0 => (some (.normal, [(0, x0), (3, (.d (.int .i64 0)))], st) : Res) :=
  (runI_reg (c := n83_4) (id := 1) (ops := opsOf n83_4) (draw := false) (by kernel_rfl)).trans (by kernel_rfl)
@[simp] theorem e83_5 (fr : Fr) (st : St) : runI cfg 83 n83_5 fr st = blockI 0 (runI cfg 83 n83_6 fr st) := run_block (by kernel_rfl)
theorem l83_6 (fr : Fr) (st : St) : runI cfg 83 n83_6 fr st = loopR cfg 83 n83_6 st.H.length (runI cfg 83 n83_7 fr st) := run_loop (by kernel_rfl)
@[simp] theorem e83_7 (fr : Fr) (st : St) : runI cfg 83 n83_7 fr st = thenR cfg 83 n83_13 (runI cfg 83 n83_8 fr st) := run_seq (by kernel_rfl)
@[simp] theorem e83_8 (fr : Fr) (st : St) : runI cfg 83 n83_8 fr st = thenR cfg 83 n83_10 (runI cfg 83 n83_9 fr st) := run_seq (by kernel_rfl)
@[simp] theorem e83_9 (fr : Fr) (st : St) : runI cfg 83 n83_9 fr st = ob (lookF fr 0) fun x0 => ob (lookF fr 3) fun x3 => ob (lenV .string st.H x0) fun x6 => ob (binV cfg.P (opAt n83_9 3) .lss 3 (.int .i64) x3 x6) fun x7 => (some (.normal, [(0, x0), (3, x3), (7, x7)], st) : Res) :=
  (runI_reg (c := n83_9) (id := 2) (ops := opsOf n83_9) (draw := false) (by kernel_rfl)).trans (by kernel_rfl)
@[simp] theorem e83_10 (fr : Fr) (st : St) : runI cfg 83 n83_10 fr st = ob (lookF fr 7) fun v => gC v none (runI cfg 83 n83_11 fr st) (runI cfg 83 n83_12 fr st) := run_cond (x := .tmp 7) (by kernel_rfl)
@[simp] theorem e83_11 (fr : Fr) (st : St) : runI cfg 83 n83_11 fr st = some (.normal, fr, st) := run_skip (by kernel_rfl)
@[simp] theorem e83_12 (fr : Fr) (st : St) : runI cfg 83 n83_12 fr st = some (.exit 0, fr, st) := run_exit (by kernel_rfl)
@[simp] theorem e83_13 (fr : Fr) (st : St) : runI cfg 83 n83_13 fr st = thenR cfg 83 n83_22 (runI cfg 83 n83_14 fr st) := run_seq (by kernel_rfl)
@[simp] theorem e83_14 (fr : Fr) (st : St) : runI cfg 83 n83_14 fr st = blockI 1 (runI cfg 83 n83_15 fr st) := run_block (by kernel_rfl)
@[simp] theorem e83_15 (fr : Fr) (st : St) : runI cfg 83 n83_15 fr st = thenR cfg 83 n83_17 (runI cfg 83 n83_16 fr st) := run_seq (by kernel_rfl)
@[simp] theorem e83_16 (fr : Fr) (st : St) : runI cfg 83 n83_16 fr st = ob (lookF fr 0) fun x0 => ob (lookF fr 3) fun x3 => ob (indexV cfg.P (opAt n83_16 2) 9 x0 x3) fun x12 => ob (binV cfg.P (opAt n83_16 3) .lss 5 (.int .u8) x12 (.d (.int .u8 32))) fun x13 => gC x13 (none) ((some (.normal, [(0, x0), (3, x3), (25, tt)], st) : Res)) (ob (indexV cfg.P (opAt n83_16 7) 9 x0 x3) fun x17 => ob (binV cfg.P (opAt n83_16 8) .gtr 5 (.int .u8) x17 (.d (.int .u8 126))) fun x18 => gC x18 (none) ((some (.normal, [(0, x0), (3, x3), (25, tt)], st) : Res)) (ob (indexV cfg.P (opAt n83_16 13) 9 x0 x3) fun x23 => ob (binV cfg.P (opAt n83_16 14) .eql 5 (.int .u8) x23 (.d (.int .u8 34))) fun x24 => (some (.normal, [(0, x0), (3, x3), (25, x24)], st) : Res))) :=
  (runI_reg (c := n83_16) (id := 4) (ops := opsOf n83_16) (draw := false) (by kernel_rfl)).trans (by kernel_rfl)
@[simp] theorem e83_17 (fr : Fr) (st : St) : runI cfg 83 n83_17 fr st = ob (lookF fr 25) fun v => gC v none (runI cfg 83 n83_18 fr st) (runI cfg 83 n83_21 fr st) := run_cond (x := .tmp 25) (by kernel_rfl)
@[simp] theorem e83_18 (fr : Fr) (st : St) : runI cfg 83 n83_18 fr st = thenR cfg 83 n83_20 (runI cfg 83 n83_19 fr st) := run_seq (by kernel_rfl)
@[simp] theorem e83_19 (fr : Fr) (st : St) : runI cfg 83 n83_19 fr st = (some (.normal, [(2, ff)], st) : Res) :=
  (runI_reg (c := n83_19) (id := 5) (ops := opsOf n83_19) (draw := false) (by kernel_rfl)).trans (by kernel_rfl)
@[simp] theorem e83_20 (fr : Fr) (st : St) : runI cfg 83 n83_20 fr st = some (.ret, fr, st) := run_ret (by kernel_rfl)
@[simp] theorem e83_21 (fr : Fr) (st : St) : runI cfg 83 n83_21 fr st = some (.normal, fr, st) := run_skip (by kernel_rfl)
@[simp] theorem e83_22 (fr : Fr) (st : St) : runI cfg 83 n83_22 fr st = ob (lookF fr 0) fun x0 => ob (lookF fr 3) fun x3 => ob (binV cfg.P (opAt n83_22 1) .add 3 (.int .i64) x3 (.d (.int .i64 1))) fun x9 => (some (.normal, [(0, x0), (3, x9)], st) : Res) :=
  (runI_reg (c := n83_22) (id := 3) (ops := opsOf n83_22) (draw := false) (by kernel_rfl)).trans (by kernel_rfl)
@[simp] theorem e83_23 (fr : Fr) (st : St) : runI cfg 83 n83_23 fr st = thenR cfg 83 n83_25 (runI cfg 83 n83_24 fr st) := run_seq (by kernel_rfl)
@[simp] theorem e83_24 (fr : Fr) (st : St) : runI cfg 83 n83_24 fr st = ob (lookF fr 0) fun x0 => ob (lenV .string st.H x0) fun x27 => ob (binV cfg.P (opAt n83_24 2) .leq 3 (.int .i64) x27 (.d (.int .i64 64))) fun x28 => (some (.normal, [(2, x28)], st) : Res) :=
  (runI_reg (c := n83_24) (id := 6) (ops := opsOf n83_24) (draw := false) (by kernel_rfl)).trans (by kernel_rfl)
@[simp] theorem e83_25 (fr : Fr) (st : St) : runI cfg 83 n83_25 fr st = some (.ret, fr, st) := run_ret (by kernel_rfl)
@[simp] theorem z83 (fr : Fr) (st : St) : endR cfg Try.f83 (some (.ret, fr, st)) = ob (lookF fr 2) fun x0 => some (x0, st) := end_r.trans (by kernel_rfl)
@[simp] theorem w83 (fr : Fr) (st : St) : endR cfg Try.f83 (some (.normal, fr, st)) = ob (lookF fr 2) fun x0 => some (x0, st) := end_n.trans (by kernel_rfl)
theorem c83 (ts : List T) (st : St) : callI cfg 83 ts st = ob (closeAll ts) fun ts => backR st (endR cfg Try.f83 (runI cfg 83 n83_0 (enumF 0 ts) ⟨[], []⟩)) := call_pure (by kernel_rfl) (by kernel_rfl) (by kernel_rfl) (by kernel_rfl)
end Go.Proofs.CfgA
end
section
set_option linter.unusedVariables false
set_option maxRecDepth 100000
namespace Go.Proofs.CfgA
open Go Go.Tm Go.Proofs

/-! 16: fettle.prnt.Print -/
noncomputable def n16_0 : Code := codeB Try.f16
noncomputable def n16_1 : Code := kid n16_0 false
noncomputable def n16_2 : Code := kid n16_0 true
noncomputable def n16_3 : Code := kid n16_2 false
noncomputable def n16_4 : Code := kid n16_2 true
noncomputable def n16_5 : Code := kid n16_4 false
noncomputable def n16_6 : Code := kid n16_5 false
noncomputable def n16_7 : Code := kid n16_5 true
noncomputable def n16_8 : Code := kid n16_7 false
noncomputable def n16_9 : Code := kid n16_8 false
noncomputable def n16_10 : Code := kid n16_9 false
noncomputable def n16_11 : Code := kid n16_9 true
noncomputable def n16_12 : Code := kid n16_11 false
noncomputable def n16_13 : Code := kid n16_12 false
noncomputable def n16_14 : Code := kid n16_12 true
noncomputable def n16_15 : Code := kid n16_11 true
noncomputable def n16_16 : Code := kid n16_15 false
noncomputable def n16_17 : Code := kid n16_16 false
noncomputable def n16_18 : Code := kid n16_17 false
noncomputable def n16_19 : Code := kid n16_17 true
noncomputable def n16_20 : Code := kid n16_15 true
noncomputable def n16_21 : Code := kid n16_4 true
noncomputable def n16_22 : Code := kid n16_21 false
noncomputable def n16_23 : Code := kid n16_21 true
@[simp] theorem e16_0 (fr : Fr) (st : St) : runI cfg 16 n16_0 fr st = thenR cfg 16 n16_2 (runI cfg 16 n16_1 fr st) := run_seq (by kernel_rfl)
@[simp] theorem e16_1 (fr : Fr) (st : St) : runI cfg 16 n16_1 fr st = ob (lookF fr 0) fun x0 => ob (lookF fr 1) fun x1 => (some (.normal, [(0, x0), (1, x1)], st) : Res) :=
  (runI_reg (c := n16_1) (id := 0) (ops := opsOf n16_1) (draw := false) (by kernel_rfl)).trans (by kernel_rfl)
@[simp] theorem e16_2 (fr : Fr) (st : St) : runI cfg 16 n16_2 fr st = thenR cfg 16 n16_4 (runI cfg 16 n16_3 fr st) := run_seq (by kernel_rfl)
@[simp] theorem e16_3 (fr : Fr) (st : St) : runI cfg 16 n16_3 fr st = ob (lookF fr 0) fun x0 => ob (lookF fr 1) fun x1 => ob (callI cfg 45 [x0] st) fun r1 => ob (callI cfg 44 [nilS, r1.1] r1.2) fun r2 => ob (lenV (.slice 31) r2.2.H x1) fun x12 => ob (callI cfg 43 [r2.1, x12] r2.2) fun r5 => (some (.normal, [(1, x1), (5, r5.1)], r5.2) : Res) :=
  (runI_reg (c := n16_3) (id := 1) (ops := opsOf n16_3) (draw := false) (by kernel_rfl)).trans (by kernel_rfl)
@[simp] theorem e16_4 (fr : Fr) (st : St) : runI cfg 16 n16_4 fr st = thenR cfg 16 n16_21 (runI cfg 16 n16_5 fr st) := run_seq (by kernel_rfl)
@[simp] theorem e16_5 (fr : Fr) (st : St) : runI cfg 16 n16_5 fr st = thenR cfg 16 n16_7 (runI cfg 16 n16_6 fr st) := run_seq (by kernel_rfl)
@[simp] theorem e16_6 (fr : Fr) (st : St) : runI cfg 16 n16_6 fr st = ob (lookF fr 1) fun x1 => ob (lookF fr 5) fun x5 => ob (lenV (.slice 31) st.H x1) fun x15 => (some (.normal, [(5, x5), (14, x1), (15, x15), (16, (.d (.int .i64 0)))], st) : Res) :=
  (runI_reg (c := n16_6) (id := 2) (ops := opsOf n16_6) (draw := false) (by kernel_rfl)).trans (by kernel_rfl)
@[simp] theorem e16_7 (fr : Fr) (st : St) : runI cfg 16 n16_7 fr st = blockI 0 (runI cfg 16 n16_8 fr st) := run_block (by kernel_rfl)
theorem l16_8 (fr : Fr) (st : St) : runI cfg 16 n16_8 fr st = loopR cfg 16 n16_8 st.H.length (runI cfg 16 n16_9 fr st) := run_loop (by kernel_rfl)
@[simp] theorem e16_9 (fr : Fr) (st : St) : runI cfg 16 n16_9 fr st = thenR cfg 16 n16_11 (runI cfg 16 n16_10 fr st) := run_seq (by kernel_rfl)
@[simp] theorem e16_10 (fr : Fr) (st : St) : runI cfg 16 n16_10 fr st = ob (lookF fr 5) fun x5 => ob (lookF fr 14) fun x14 => ob (lookF fr 15) fun x15 => ob (lookF fr 16) fun x16 => ob (binV cfg.P (opAt n16_10 0) .lss 3 (.int .i64) x16 x15) fun x17 => (some (.normal, [(5, x5), (14, x14), (15, x15), (16, x16), (17, x17)], st) : Res) :=
  (runI_reg (c := n16_10) (id := 3) (ops := opsOf n16_10) (draw := false) (by kernel_rfl)).trans (by kernel_rfl)
@[simp] theorem e16_11 (fr : Fr) (st : St) : runI cfg 16 n16_11 fr st = thenR cfg 16 n16_15 (runI cfg 16 n16_12 fr st) := run_seq (by kernel_rfl)
@[simp] theorem e16_12 (fr : Fr) (st : St) : runI cfg 16 n16_12 fr st = ob (lookF fr 17) fun v => gC v none (runI cfg 16 n16_13 fr st) (runI cfg 16 n16_14 fr st) := run_cond (x := .tmp 17) (by kernel_rfl)
@[simp] theorem e16_13 (fr : Fr) (st : St) : runI cfg 16 n16_13 fr st = some (.normal, fr, st) := run_skip (by kernel_rfl)
@[simp] theorem e16_14 (fr : Fr) (st : St) : runI cfg 16 n16_14 fr st = some (.exit 0, fr, st) := run_exit (by kernel_rfl)
@[simp] theorem e16_15 (fr : Fr) (st : St) : runI cfg 16 n16_15 fr st = thenR cfg 16 n16_20 (runI cfg 16 n16_16 fr st) := run_seq (by kernel_rfl)
@[simp] theorem e16_16 (fr : Fr) (st : St) : runI cfg 16 n16_16 fr st = blockI 1 (runI cfg 16 n16_17 fr st) := run_block (by kernel_rfl)
@[simp] theorem e16_17 (fr : Fr) (st : St) : runI cfg 16 n16_17 fr st = thenR cfg 16 n16_19 (runI cfg 16 n16_18 fr st) := run_seq (by kernel_rfl)
@[simp] theorem e16_18 (fr : Fr) (st : St) : runI cfg 16 n16_18 fr st = ob (lookF fr 5) fun x5 => ob (lookF fr 14) fun x14 => ob (lookF fr 15) fun x15 => ob (lookF fr 16) fun x16 => ob (ixV 1 x14 x16) fun x18 => ob (loadV 1 false st.H x18) fun x19 => (some (.normal, [(5, x5), (7, x19), (14, x14), (15, x15), (16, x16)], st) : Res) :=
  (runI_reg (c := n16_18) (id := 4) (ops := opsOf n16_18) (draw := false) (by kernel_rfl)).trans (by kernel_rfl)
@[simp] theorem e16_19 (fr : Fr) (st : St) : runI cfg 16 n16_19 fr st = ob (lookF fr 5) fun x5 => ob (lookF fr 7) fun x7 => ob (lookF fr 14) fun x14 => ob (lookF fr 15) fun x15 => ob (lookF fr 16) fun x16 => ob (callI cfg 44 [x5, x7] st) fun r2 => (some (.normal, [(5, r2.1), (14, x14), (15, x15), (16, x16)], r2.2) : Res) :=
  (runI_reg (c := n16_19) (id := 5) (ops := opsOf n16_19) (draw := false) (by kernel_rfl)).trans (by kernel_rfl)
@[simp] theorem e16_20 (fr : Fr) (st : St) : runI cfg 16 n16_20 fr st = ob (lookF fr 5) fun x5 => ob (lookF fr 14) fun x14 => ob (lookF fr 15) fun x15 => ob (lookF fr 16) fun x16 => ob (binV cfg.P (opAt n16_20 0) .add 3 (.int .i64) x16 (.d (.int .i64 1))) fun x23 => (some (.normal, [(5, x5), (14, x14), (15, x15), (16, x23)], st) : Res) :=
  (runI_reg (c := n16_20) (id := 6) (ops := opsOf n16_20) (draw := false) (by kernel_rfl)).trans (by kernel_rfl)
@[simp] theorem e16_21 (fr : Fr) (st : St) : runI cfg 16 n16_21 fr st = thenR cfg 16 n16_23 (runI cfg 16 n16_22 fr st) := run_seq (by kernel_rfl)
@[simp] theorem e16_22 (fr : Fr) (st : St) : runI cfg 16 n16_22 fr st = ob (lookF fr 5) fun x5 => (some (.normal, [(4, x5)], st) : Res) :=
  (runI_reg (c := n16_22) (id := 7) (ops := opsOf n16_22) (draw := false) (by kernel_rfl)).trans (by kernel_rfl)
@[simp] theorem e16_23 (fr : Fr) (st : St) : runI cfg 16 n16_23 fr st = some (.ret, fr, st) := run_ret (by kernel_rfl)
@[simp] theorem z16 (fr : Fr) (st : St) : endR cfg Try.f16 (some (.ret, fr, st)) = ob (lookF fr 4) fun x0 => some (x0, st) := end_r.trans (by kernel_rfl)
@[simp] theorem w16 (fr : Fr) (st : St) : endR cfg Try.f16 (some (.normal, fr, st)) = ob (lookF fr 4) fun x0 => some (x0, st) := end_n.trans (by kernel_rfl)
theorem c16 (ts : List T) (st : St) : callI cfg 16 ts st = ob (closeAll ts) fun ts => backR st (endR cfg Try.f16 (runI cfg 16 n16_0 (enumF 0 ts) ⟨[], []⟩)) := call_pure (by kernel_rfl) (by kernel_rfl) (by kernel_rfl) (by kernel_rfl)
/-! 17: fettle.prnt.Parse -/
noncomputable def n17_0 : Code := codeB Try.f17
noncomputable def n17_1 : Code := kid n17_0 false
noncomputable def n17_2 : Code := kid n17_0 true
noncomputable def n17_3 : Code := kid n17_2 false
noncomputable def n17_4 : Code := kid n17_2 true
noncomputable def n17_5 : Code := kid n17_4 false
noncomputable def n17_6 : Code := kid n17_4 true
noncomputable def n17_7 : Code := kid n17_6 false
noncomputable def n17_8 : Code := kid n17_6 true
noncomputable def n17_9 : Code := kid n17_8 false
noncomputable def n17_10 : Code := kid n17_9 false
noncomputable def n17_11 : Code := kid n17_9 true
noncomputable def n17_12 : Code := kid n17_11 false
noncomputable def n17_13 : Code := kid n17_12 false
noncomputable def n17_14 : Code := kid n17_13 false
noncomputable def n17_15 : Code := kid n17_13 true
noncomputable def n17_16 : Code := kid n17_15 false
noncomputable def n17_17 : Code := kid n17_16 false
noncomputable def n17_18 : Code := kid n17_16 true
noncomputable def n17_19 : Code := kid n17_15 true
noncomputable def n17_20 : Code := kid n17_19 false
noncomputable def n17_21 : Code := kid n17_20 false
noncomputable def n17_22 : Code := kid n17_19 true
noncomputable def n17_23 : Code := kid n17_8 true
noncomputable def n17_24 : Code := kid n17_23 false
noncomputable def n17_25 : Code := kid n17_24 false
noncomputable def n17_26 : Code := kid n17_24 true
noncomputable def n17_27 : Code := kid n17_26 false
noncomputable def n17_28 : Code := kid n17_27 false
noncomputable def n17_29 : Code := kid n17_27 true
noncomputable def n17_30 : Code := kid n17_26 true
noncomputable def n17_31 : Code := kid n17_23 true
noncomputable def n17_32 : Code := kid n17_31 false
noncomputable def n17_33 : Code := kid n17_31 true
@[simp] theorem e17_0 (fr : Fr) (st : St) : runI cfg 17 n17_0 fr st = thenR cfg 17 n17_2 (runI cfg 17 n17_1 fr st) := run_seq (by kernel_rfl)
@[simp] theorem e17_1 (fr : Fr) (st : St) : runI cfg 17 n17_1 fr st = ob (lookF fr 0) fun x0 => (some (.normal, [(0, x0)], st) : Res) :=
  (runI_reg (c := n17_1) (id := 0) (ops := opsOf n17_1) (draw := false) (by kernel_rfl)).trans (by kernel_rfl)
@[simp] theorem e17_2 (fr : Fr) (st : St) : runI cfg 17 n17_2 fr st = thenR cfg 17 n17_4 (runI cfg 17 n17_3 fr st) := run_seq (by kernel_rfl)
@[simp] theorem e17_3 (fr : Fr) (st : St) : runI cfg 17 n17_3 fr st = ob (lookF fr 0) fun x0 => ob (callI cfg 46 [x0] st) fun r1 => (some (.normal, [(0, x0), (5, r1.1)], r1.2) : Res) :=
  (runI_reg (c := n17_3) (id := 1) (ops := opsOf n17_3) (draw := false) (by kernel_rfl)).trans (by kernel_rfl)
@[simp] theorem e17_4 (fr : Fr) (st : St) : runI cfg 17 n17_4 fr st = thenR cfg 17 n17_6 (runI cfg 17 n17_5 fr st) := run_seq (by kernel_rfl)
@[simp] theorem e17_5 (fr : Fr) (st : St) : runI cfg 17 n17_5 fr st = ob (lookF fr 0) fun x0 => ob (lookF fr 5) fun x5 => ob (callI cfg 48 [x5, (.d (.int .i64 4000))] st) fun r1 => ob (callI cfg 47 [r1.1] r1.2) fun r2 => ob (exV 0 r2.1) fun x15 => ob (exV 1 r2.1) fun x16 => (some (.normal, [(0, x0), (5, x5), (6, x15), (7, x16)], r2.2) : Res) :=
  (runI_reg (c := n17_5) (id := 2) (ops := opsOf n17_5) (draw := false) (by kernel_rfl)).trans (by kernel_rfl)
@[simp] theorem e17_6 (fr : Fr) (st : St) : runI cfg 17 n17_6 fr st = thenR cfg 17 n17_8 (runI cfg 17 n17_7 fr st) := run_seq (by kernel_rfl)
@[simp] theorem e17_7 (fr : Fr) (st : St) : runI cfg 17 n17_7 fr st = ob (lookF fr 0) fun x0 => ob (lookF fr 5) fun x5 => ob (lookF fr 6) fun x6 => ob (lookF fr 7) fun x7 => (some (.normal, [(0, x0), (5, x5), (6, x6), (7, x7), (8, nilS)], st) : Res) :=
  (runI_reg (c := n17_7) (id := 3) (ops := opsOf n17_7) (draw := false) (by kernel_rfl)).trans (by kernel_rfl)
@[simp] theorem e17_8 (fr : Fr) (st : St) : runI cfg 17 n17_8 fr st = thenR cfg 17 n17_23 (runI cfg 17 n17_9 fr st) := run_seq (by kernel_rfl)
@[simp] theorem e17_9 (fr : Fr) (st : St) : runI cfg 17 n17_9 fr st = thenR cfg 17 n17_11 (runI cfg 17 n17_10 fr st) := run_seq (by kernel_rfl)
@[simp] theorem e17_10 (fr : Fr) (st : St) : runI cfg 17 n17_10 fr st = ob (lookF fr 0) fun x0 => ob (lookF fr 5) fun x5 => ob (lookF fr 6) fun x6 => ob (lookF fr 7) fun x7 => ob (lookF fr 8) fun x8 => ob (callI cfg 49 [x5, (.d (.int .i64 8))] st) fun r1 => (some (.normal, [(0, x0), (5, x5), (6, x6), (7, x7), (8, x8), (18, r1.1), (19, (.d (.int .i64 0)))], r1.2) : Res) :=
  (runI_reg (c := n17_10) (id := 4) (ops := opsOf n17_10) (draw := false) (by kernel_rfl)).trans (by kernel_rfl)
@[simp] theorem e17_11 (fr : Fr) (st : St) : runI cfg 17 n17_11 fr st = blockI 0 (runI cfg 17 n17_12 fr st) := run_block (by kernel_rfl)
theorem l17_12 (fr : Fr) (st : St) : runI cfg 17 n17_12 fr st = loopR cfg 17 n17_12 st.H.length (runI cfg 17 n17_13 fr st) := run_loop (by kernel_rfl)
@[simp] theorem e17_13 (fr : Fr) (st : St) : runI cfg 17 n17_13 fr st = thenR cfg 17 n17_15 (runI cfg 17 n17_14 fr st) := run_seq (by kernel_rfl)
@[simp] theorem e17_14 (fr : Fr) (st : St) : runI cfg 17 n17_14 fr st = ob (lookF fr 0) fun x0 => ob (lookF fr 5) fun x5 => ob (lookF fr 6) fun x6 => ob (lookF fr 7) fun x7 => ob (lookF fr 8) fun x8 => ob (lookF fr 18) fun x18 => ob (lookF fr 19) fun x19 => ob (binV cfg.P (opAt n17_14 0) .lss 3 (.int .i64) x19 x18) fun x20 => (some (.normal, [(0, x0), (5, x5), (6, x6), (7, x7), (8, x8), (18, x18), (19, x19), (20, x20)], st) : Res) :=
  (runI_reg (c := n17_14) (id := 5) (ops := opsOf n17_14) (draw := false) (by kernel_rfl)).trans (by kernel_rfl)
@[simp] theorem e17_15 (fr : Fr) (st : St) : runI cfg 17 n17_15 fr st = thenR cfg 17 n17_19 (runI cfg 17 n17_16 fr st) := run_seq (by kernel_rfl)
@[simp] theorem e17_16 (fr : Fr) (st : St) : runI cfg 17 n17_16 fr st = ob (lookF fr 20) fun v => gC v none (runI cfg 17 n17_17 fr st) (runI cfg 17 n17_18 fr st) := run_cond (x := .tmp 20) (by kernel_rfl)
@[simp] theorem e17_17 (fr : Fr) (st : St) : runI cfg 17 n17_17 fr st = some (.normal, fr, st) := run_skip (by kernel_rfl)
@[simp] theorem e17_18 (fr : Fr) (st : St) : runI cfg 17 n17_18 fr st = some (.exit 0, fr, st) := run_exit (by kernel_rfl)
@[simp] theorem e17_19 (fr : Fr) (st : St) : runI cfg 17 n17_19 fr st = thenR cfg 17 n17_22 (runI cfg 17 n17_20 fr st) := run_seq (by kernel_rfl)
@[simp] theorem e17_20 (fr : Fr) (st : St) : runI cfg 17 n17_20 fr st = blockI 1 (runI cfg 17 n17_21 fr st) := run_block (by kernel_rfl)
@[simp] theorem e17_21 (fr : Fr) (st : St) : runI cfg 17 n17_21 fr st = ob (lookF fr 0) fun x0 => ob (lookF fr 5) fun x5 => ob (lookF fr 6) fun x6 => ob (lookF fr 7) fun x7 => ob (lookF fr 8) fun x8 => ob (lookF fr 18) fun x18 => ob (lookF fr 19) fun x19 => ob (callI cfg 48 [x5, (.d (.int .i64 256))] st) fun r2 => ob (fillA 1 (repeatL [nilS] 1) [(0, r2.1)]) fun c3 => ob (T.toDs c3) fun d3 => ob (appV 1 24 r2.2 x8 (.sl false 1 d3 .lit)) fun a4 => (some (.normal, [(0, x0), (5, x5), (6, x6), (7, x7), (8, a4.1), (18, x18), (19, x19)], ⟨r2.2.H, a4.2⟩) : Res) :=
  (runI_reg (c := n17_21) (id := 6) (ops := opsOf n17_21) (draw := false) (by kernel_rfl)).trans (by kernel_rfl)
@[simp] theorem e17_22 (fr : Fr) (st : St) : runI cfg 17 n17_22 fr st = ob (lookF fr 0) fun x0 => ob (lookF fr 5) fun x5 => ob (lookF fr 6) fun x6 => ob (lookF fr 7) fun x7 => ob (lookF fr 8) fun x8 => ob (lookF fr 18) fun x18 => ob (lookF fr 19) fun x19 => ob (binV cfg.P (opAt n17_22 0) .add 3 (.int .i64) x19 (.d (.int .i64 1))) fun x26 => (some (.normal, [(0, x0), (5, x5), (6, x6), (7, x7), (8, x8), (18, x18), (19, x26)], st) : Res) :=
  (runI_reg (c := n17_22) (id := 7) (ops := opsOf n17_22) (draw := false) (by kernel_rfl)).trans (by kernel_rfl)
@[simp] theorem e17_23 (fr : Fr) (st : St) : runI cfg 17 n17_23 fr st = thenR cfg 17 n17_31 (runI cfg 17 n17_24 fr st) := run_seq (by kernel_rfl)
@[simp] theorem e17_24 (fr : Fr) (st : St) : runI cfg 17 n17_24 fr st = thenR cfg 17 n17_26 (runI cfg 17 n17_25 fr st) := run_seq (by kernel_rfl)
@[simp] theorem e17_25 (fr : Fr) (st : St) : runI cfg 17 n17_25 fr st = ob (lookF fr 0) fun x0 => ob (lookF fr 5) fun x5 => ob (lookF fr 6) fun x6 => ob (lookF fr 7) fun x7 => ob (lookF fr 8) fun x8 => ob (notV cfg.P (opAt n17_25 1) .not x7) fun x28 => gC x28 (none) ((some (.normal, [(6, x6), (8, x8), (41, tt)], st) : Res)) (ob (callI cfg 50 [x5] st) fun r4 => ob (notV cfg.P (opAt n17_25 5) .not r4.1) fun x32 => gC x32 (none) ((some (.normal, [(6, x6), (8, x8), (41, tt)], r4.2) : Res)) (ob (callI cfg 16 [x6, x8] r4.2) fun r10 => ob (callI cfg 51 [r10.1, x0] r10.2) fun r12 => ob (notV cfg.P (opAt n17_25 13) .not r12.1) fun x40 => (some (.normal, [(6, x6), (8, x8), (41, x40)], r12.2) : Res))) :=
  (runI_reg (c := n17_25) (id := 8) (ops := opsOf n17_25) (draw := false) (by kernel_rfl)).trans (by kernel_rfl)
@[simp] theorem e17_26 (fr : Fr) (st : St) : runI cfg 17 n17_26 fr st = ob (lookF fr 41) fun v => gC v none (runI cfg 17 n17_27 fr st) (runI cfg 17 n17_30 fr st) := run_cond (x := .tmp 41) (by kernel_rfl)
@[simp] theorem e17_27 (fr : Fr) (st : St) : runI cfg 17 n17_27 fr st = thenR cfg 17 n17_29 (runI cfg 17 n17_28 fr st) := run_seq (by kernel_rfl)
@[simp] theorem e17_28 (fr : Fr) (st : St) : runI cfg 17 n17_28 fr st = (some (.normal, [(2, nilS), (3, nilS), (4, ff)], st) : Res) :=
  (runI_reg (c := n17_28) (id := 9) (ops := opsOf n17_28) (draw := false) (by kernel_rfl)).trans (by kernel_rfl)
@[simp] theorem e17_29 (fr : Fr) (st : St) : runI cfg 17 n17_29 fr st = some (.ret, fr, st) := run_ret (by kernel_rfl)
@[simp] theorem e17_30 (fr : Fr) (st : St) : runI cfg 17 n17_30 fr st = some (.normal, fr, st) := run_skip (by kernel_rfl)
@[simp] theorem e17_31 (fr : Fr) (st : St) : runI cfg 17 n17_31 fr st = thenR cfg 17 n17_33 (runI cfg 17 n17_32 fr st) := run_seq (by kernel_rfl)
@[simp] theorem e17_32 (fr : Fr) (st : St) : runI cfg 17 n17_32 fr st = ob (lookF fr 6) fun x6 => ob (lookF fr 8) fun x8 => (some (.normal, [(2, x6), (3, x8), (4, tt)], st) : Res) :=
  (runI_reg (c := n17_32) (id := 10) (ops := opsOf n17_32) (draw := false) (by kernel_rfl)).trans (by kernel_rfl)
@[simp] theorem e17_33 (fr : Fr) (st : St) : runI cfg 17 n17_33 fr st = some (.ret, fr, st) := run_ret (by kernel_rfl)
@[simp] theorem z17 (fr : Fr) (st : St) : endR cfg Try.f17 (some (.ret, fr, st)) = ob (lookF fr 2) fun x0 => ob (lookF fr 3) fun x1 => ob (lookF fr 4) fun x2 => some (.tup [x0, x1, x2], st) := end_r.trans (by kernel_rfl)
@[simp] theorem w17 (fr : Fr) (st : St) : endR cfg Try.f17 (some (.normal, fr, st)) = ob (lookF fr 2) fun x0 => ob (lookF fr 3) fun x1 => ob (lookF fr 4) fun x2 => some (.tup [x0, x1, x2], st) := end_n.trans (by kernel_rfl)
theorem c17 (ts : List T) (st : St) : callI cfg 17 ts st = ob (closeAll ts) fun ts => backR st (endR cfg Try.f17 (runI cfg 17 n17_0 (enumF 0 ts) ⟨[], []⟩)) := call_pure (by kernel_rfl) (by kernel_rfl) (by kernel_rfl) (by kernel_rfl)
/-! 18: fettle.prnt.Value -/
noncomputable def n18_0 : Code := codeB Try.f18
noncomputable def n18_1 : Code := kid n18_0 false
noncomputable def n18_2 : Code := kid n18_0 true
noncomputable def n18_3 : Code := kid n18_2 false
noncomputable def n18_4 : Code := kid n18_2 true
noncomputable def n18_5 : Code := kid n18_4 false
noncomputable def n18_6 : Code := kid n18_5 false
noncomputable def n18_7 : Code := kid n18_5 true
noncomputable def n18_8 : Code := kid n18_7 false
noncomputable def n18_9 : Code := kid n18_8 false
noncomputable def n18_10 : Code := kid n18_8 true
noncomputable def n18_11 : Code := kid n18_7 true
noncomputable def n18_12 : Code := kid n18_4 true
noncomputable def n18_13 : Code := kid n18_12 false
noncomputable def n18_14 : Code := kid n18_12 true
@[simp] theorem e18_0 (fr : Fr) (st : St) : runI cfg 18 n18_0 fr st = thenR cfg 18 n18_2 (runI cfg 18 n18_1 fr st) := run_seq (by kernel_rfl)
@[simp] theorem e18_1 (fr : Fr) (st : St) : runI cfg 18 n18_1 fr st = ob (lookF fr 0) fun x0 => (some (.normal, [(0, x0)], st) : Res) :=
  (runI_reg (c := n18_1) (id := 0) (ops := opsOf n18_1) (draw := false) (by kernel_rfl)).trans (by kernel_rfl)
@[simp] theorem e18_2 (fr : Fr) (st : St) : runI cfg 18 n18_2 fr st = thenR cfg 18 n18_4 (runI cfg 18 n18_3 fr st) := run_seq (by kernel_rfl)
@[simp] theorem e18_3 (fr : Fr) (st : St) : runI cfg 18 n18_3 fr st = ob (lookF fr 0) fun x0 => ob (callI cfg 17 [x0] st) fun r1 => ob (exV 0 r1.1) fun x10 => ob (exV 1 r1.1) fun x11 => ob (exV 2 r1.1) fun x12 => (some (.normal, [(4, x10), (5, x11), (6, x12)], r1.2) : Res) :=
  (runI_reg (c := n18_3) (id := 1) (ops := opsOf n18_3) (draw := false) (by kernel_rfl)).trans (by kernel_rfl)
@[simp] theorem e18_4 (fr : Fr) (st : St) : runI cfg 18 n18_4 fr st = thenR cfg 18 n18_12 (runI cfg 18 n18_5 fr st) := run_seq (by kernel_rfl)
@[simp] theorem e18_5 (fr : Fr) (st : St) : runI cfg 18 n18_5 fr st = thenR cfg 18 n18_7 (runI cfg 18 n18_6 fr st) := run_seq (by kernel_rfl)
@[simp] theorem e18_6 (fr : Fr) (st : St) : runI cfg 18 n18_6 fr st = ob (lookF fr 4) fun x4 => ob (lookF fr 5) fun x5 => ob (lookF fr 6) fun x6 => ob (notV cfg.P (opAt n18_6 1) .not x6) fun x14 => (some (.normal, [(4, x4), (5, x5), (14, x14)], st) : Res) :=
  (runI_reg (c := n18_6) (id := 2) (ops := opsOf n18_6) (draw := false) (by kernel_rfl)).trans (by kernel_rfl)
@[simp] theorem e18_7 (fr : Fr) (st : St) : runI cfg 18 n18_7 fr st = ob (lookF fr 14) fun v => gC v none (runI cfg 18 n18_8 fr st) (runI cfg 18 n18_11 fr st) := run_cond (x := .tmp 14) (by kernel_rfl)
@[simp] theorem e18_8 (fr : Fr) (st : St) : runI cfg 18 n18_8 fr st = thenR cfg 18 n18_10 (runI cfg 18 n18_9 fr st) := run_seq (by kernel_rfl)
@[simp] theorem e18_9 (fr : Fr) (st : St) : runI cfg 18 n18_9 fr st = (some (.normal, [(2, nilS), (3, ff)], st) : Res) :=
  (runI_reg (c := n18_9) (id := 3) (ops := opsOf n18_9) (draw := false) (by kernel_rfl)).trans (by kernel_rfl)
@[simp] theorem e18_10 (fr : Fr) (st : St) : runI cfg 18 n18_10 fr st = some (.ret, fr, st) := run_ret (by kernel_rfl)
@[simp] theorem e18_11 (fr : Fr) (st : St) : runI cfg 18 n18_11 fr st = some (.normal, fr, st) := run_skip (by kernel_rfl)
@[simp] theorem e18_12 (fr : Fr) (st : St) : runI cfg 18 n18_12 fr st = thenR cfg 18 n18_14 (runI cfg 18 n18_13 fr st) := run_seq (by kernel_rfl)
@[simp] theorem e18_13 (fr : Fr) (st : St) : runI cfg 18 n18_13 fr st = ob (lookF fr 4) fun x4 => ob (lookF fr 5) fun x5 => ob (callI cfg 52 [x4, x5] st) fun r2 => ob (exV 0 r2.1) fun x18 => ob (exV 1 r2.1) fun x19 => (some (.normal, [(2, x18), (3, x19)], r2.2) : Res) :=
  (runI_reg (c := n18_13) (id := 4) (ops := opsOf n18_13) (draw := false) (by kernel_rfl)).trans (by kernel_rfl)
@[simp] theorem e18_14 (fr : Fr) (st : St) : runI cfg 18 n18_14 fr st = some (.ret, fr, st) := run_ret (by kernel_rfl)
@[simp] theorem z18 (fr : Fr) (st : St) : endR cfg Try.f18 (some (.ret, fr, st)) = ob (lookF fr 2) fun x0 => ob (lookF fr 3) fun x1 => some (.tup [x0, x1], st) := end_r.trans (by kernel_rfl)
@[simp] theorem w18 (fr : Fr) (st : St) : endR cfg Try.f18 (some (.normal, fr, st)) = ob (lookF fr 2) fun x0 => ob (lookF fr 3) fun x1 => some (.tup [x0, x1], st) := end_n.trans (by kernel_rfl)
theorem c18 (ts : List T) (st : St) : callI cfg 18 ts st = ob (closeAll ts) fun ts => backR st (endR cfg Try.f18 (runI cfg 18 n18_0 (enumF 0 ts) ⟨[], []⟩)) := call_pure (by kernel_rfl) (by kernel_rfl) (by kernel_rfl) (by kernel_rfl)
/-! 19: fettle.fettleref1.SameRows -/
noncomputable def n19_0 : Code := codeB Try.f19
noncomputable def n19_1 : Code := kid n19_0 false
noncomputable def n19_2 : Code := kid n19_0 true
noncomputable def n19_3 : Code := kid n19_2 false
noncomputable def n19_4 : Code := kid n19_3 false
noncomputable def n19_5 : Code := kid n19_3 true
noncomputable def n19_6 : Code := kid n19_5 false
noncomputable def n19_7 : Code := kid n19_6 false
noncomputable def n19_8 : Code := kid n19_6 true
noncomputable def n19_9 : Code := kid n19_5 true
noncomputable def n19_10 : Code := kid n19_2 true
noncomputable def n19_11 : Code := kid n19_10 false
noncomputable def n19_12 : Code := kid n19_11 false
noncomputable def n19_13 : Code := kid n19_11 true
noncomputable def n19_14 : Code := kid n19_13 false
noncomputable def n19_15 : Code := kid n19_14 false
noncomputable def n19_16 : Code := kid n19_15 false
noncomputable def n19_17 : Code := kid n19_16 false
noncomputable def n19_18 : Code := kid n19_16 true
noncomputable def n19_19 : Code := kid n19_18 false
noncomputable def n19_20 : Code := kid n19_18 true
noncomputable def n19_21 : Code := kid n19_15 true
noncomputable def n19_22 : Code := kid n19_21 false
noncomputable def n19_23 : Code := kid n19_22 false
noncomputable def n19_24 : Code := kid n19_23 false
noncomputable def n19_25 : Code := kid n19_23 true
noncomputable def n19_26 : Code := kid n19_25 false
noncomputable def n19_27 : Code := kid n19_26 false
noncomputable def n19_28 : Code := kid n19_26 true
noncomputable def n19_29 : Code := kid n19_25 true
noncomputable def n19_30 : Code := kid n19_21 true
noncomputable def n19_31 : Code := kid n19_10 true
noncomputable def n19_32 : Code := kid n19_31 false
noncomputable def n19_33 : Code := kid n19_31 true
@[simp] theorem e19_0 (fr : Fr) (st : St) : runI cfg 19 n19_0 fr st = thenR cfg 19 n19_2 (runI cfg 19 n19_1 fr st) := run_seq (by kernel_rfl)
@[simp] theorem e19_1 (fr : Fr) (st : St) : runI cfg 19 n19_1 fr st = ob (lookF fr 0) fun x0 => ob (lookF fr 1) fun x1 => (some (.normal, [(0, x0), (1, x1)], st) : Res) :=
  (runI_reg (c := n19_1) (id := 0) (ops := opsOf n19_1) (draw := false) (by kernel_rfl)).trans (by kernel_rfl)
@[simp] theorem e19_2 (fr : Fr) (st : St) : runI cfg 19 n19_2 fr st = thenR cfg 19 n19_10 (runI cfg 19 n19_3 fr st) := run_seq (by kernel_rfl)
@[simp] theorem e19_3 (fr : Fr) (st : St) : runI cfg 19 n19_3 fr st = thenR cfg 19 n19_5 (runI cfg 19 n19_4 fr st) := run_seq (by kernel_rfl)
@[simp] theorem e19_4 (fr : Fr) (st : St) : runI cfg 19 n19_4 fr st = ob (lookF fr 0) fun x0 => ob (lookF fr 1) fun x1 => ob (lenV (.slice 31) st.H x0) fun x7 => ob (lenV (.slice 31) st.H x1) fun x9 => ob (binV cfg.P (opAt n19_4 4) .neq 3 (.int .i64) x7 x9) fun x10 => (some (.normal, [(0, x0), (1, x1), (10, x10)], st) : Res) :=
  (runI_reg (c := n19_4) (id := 1) (ops := opsOf n19_4) (draw := false) (by kernel_rfl)).trans (by kernel_rfl)
@[simp] theorem e19_5 (fr : Fr) (st : St) : runI cfg 19 n19_5 fr st = ob (lookF fr 10) fun v => gC v none (runI cfg 19 n19_6 fr st) (runI cfg 19 n19_9 fr st) := run_cond (x := .tmp 10) (by kernel_rfl)
@[simp] theorem e19_6 (fr : Fr) (st : St) : runI cfg 19 n19_6 fr st = thenR cfg 19 n19_8 (runI cfg 19 n19_7 fr st) := run_seq (by kernel_rfl)
@[simp] theorem e19_7 (fr : Fr) (st : St) : runI cfg 19 n19_7 fr st = (some (.normal, [(4, ff)], st) : Res) :=
  (runI_reg (c := n19_7) (id := 2) (ops := opsOf n19_7) (draw := false) (by kernel_rfl)).trans (by kernel_rfl)
@[simp] theorem e19_8 (fr : Fr) (st : St) : runI cfg 19 n19_8 fr st = some (.ret, fr, st) := run_ret (by kernel_rfl)
@[simp] theorem e19_9 (fr : Fr) (st : St) : runI cfg 19 n19_9 fr st = some (.normal, fr, st) := run_skip (by kernel_rfl)
@[simp] theorem e19_10 (fr : Fr) (st : St) : runI cfg 19 n19_10 fr st = thenR cfg 19 n19_31 (runI cfg 19 n19_11 fr st) := run_seq (by kernel_rfl)
@[simp] theorem e19_11 (fr : Fr) (st : St) : runI cfg 19 n19_11 fr st = thenR cfg 19 n19_13 (runI cfg 19 n19_12 fr st) := run_seq (by kernel_rfl)
@[simp] theorem e19_12 (fr : Fr) (st : St) : runI cfg 19 n19_12 fr st = ob (lookF fr 0) fun x0 => ob (lookF fr 1) fun x1 => (some (.normal, [(0, x0), (1, x1), (5, (.d (.int .i64 0)))], st) : Res) :=
  (runI_reg (c := n19_12) (id := 3) (ops := opsOf n19_12) (draw := false) (by kernel_rfl)).trans (by kernel_rfl)
@[simp] theorem e19_13 (fr : Fr) (st : St) : runI cfg 19 n19_13 fr st = blockI 0 (runI cfg 19 n19_14 fr st) := run_block (by kernel_rfl)
theorem l19_14 (fr : Fr) (st : St) : runI cfg 19 n19_14 fr st = loopR cfg 19 n19_14 st.H.length (runI cfg 19 n19_15 fr st) := run_loop (by kernel_rfl)
@[simp] theorem e19_15 (fr : Fr) (st : St) : runI cfg 19 n19_15 fr st = thenR cfg 19 n19_21 (runI cfg 19 n19_16 fr st) := run_seq (by kernel_rfl)
@[simp] theorem e19_16 (fr : Fr) (st : St) : runI cfg 19 n19_16 fr st = thenR cfg 19 n19_18 (runI cfg 19 n19_17 fr st) := run_seq (by kernel_rfl)
@[simp] theorem e19_17 (fr : Fr) (st : St) : runI cfg 19 n19_17 fr st = ob (lookF fr 0) fun x0 => ob (lookF fr 1) fun x1 => ob (lookF fr 5) fun x5 => ob (lenV (.slice 31) st.H x0) fun x13 => ob (binV cfg.P (opAt n19_17 3) .lss 3 (.int .i64) x5 x13) fun x14 => (some (.normal, [(0, x0), (1, x1), (5, x5), (14, x14)], st) : Res) :=
  (runI_reg (c := n19_17) (id := 4) (ops := opsOf n19_17) (draw := false) (by kernel_rfl)).trans (by kernel_rfl)
@[simp] theorem e19_18 (fr : Fr) (st : St) : runI cfg 19 n19_18 fr st = ob (lookF fr 14) fun v => gC v none (runI cfg 19 n19_19 fr st) (runI cfg 19 n19_20 fr st) := run_cond (x := .tmp 14) (by kernel_rfl)
@[simp] theorem e19_19 (fr : Fr) (st : St) : runI cfg 19 n19_19 fr st = some (.normal, fr, st) := run_skip (by kernel_rfl)
@[simp] theorem e19_20 (fr : Fr) (st : St) : runI cfg 19 n19_20 fr st = some (.exit 0, fr, st) := run_exit (by kernel_rfl)
@[simp] theorem e19_21 (fr : Fr) (st : St) : runI cfg 19 n19_21 fr st = thenR cfg 19 n19_30 (runI cfg 19 n19_22 fr st) := run_seq (by kernel_rfl)
@[simp] theorem e19_22 (fr : Fr) (st : St) : runI cfg 19 n19_22 fr st = blockI 1 (runI cfg 19 n19_23 fr st) := run_block (by kernel_rfl)
@[simp] theorem e19_23 (fr : Fr) (st : St) : runI cfg 19 n19_23 fr st = thenR cfg 19 n19_25 (runI cfg 19 n19_24 fr st) := run_seq (by kernel_rfl)
@[simp] theorem e19_24 (fr : Fr) (st : St) : runI cfg 19 n19_24 fr st = ob (lookF fr 0) fun x0 => ob (lookF fr 1) fun x1 => ob (lookF fr 5) fun x5 => ob (ixV 1 x0 x5) fun x19 => ob (loadV 1 false st.H x19) fun x20 => ob (convV cfg.P (opAt n19_24 4) false (some (.slice 5)) (some .string) (some (.int .u8)) none x20) fun x21 => ob (ixV 1 x1 x5) fun x24 => ob (loadV 1 false st.H x24) fun x25 => ob (convV cfg.P (opAt n19_24 9) false (some (.slice 5)) (some .string) (some (.int .u8)) none x25) fun x26 => ob (binV cfg.P (opAt n19_24 10) .neq 9 .string x21 x26) fun x27 => (some (.normal, [(0, x0), (1, x1), (5, x5), (27, x27)], st) : Res) :=
  (runI_reg (c := n19_24) (id := 6) (ops := opsOf n19_24) (draw := true) (by kernel_rfl)).trans (by kernel_rfl)
@[simp] theorem e19_25 (fr : Fr) (st : St) : runI cfg 19 n19_25 fr st = ob (lookF fr 27) fun v => gC v none (runI cfg 19 n19_26 fr st) (runI cfg 19 n19_29 fr st) := run_cond (x := .tmp 27) (by kernel_rfl)
@[simp] theorem e19_26 (fr : Fr) (st : St) : runI cfg 19 n19_26 fr st = thenR cfg 19 n19_28 (runI cfg 19 n19_27 fr st) := run_seq (by kernel_rfl)
@[simp] theorem e19_27 (fr : Fr) (st : St) : runI cfg 19 n19_27 fr st = (some (.normal, [(4, ff)], st) : Res) :=
  (runI_reg (c := n19_27) (id := 7) (ops := opsOf n19_27) (draw := false) (by kernel_rfl)).trans (by kernel_rfl)
@[simp] theorem e19_28 (fr : Fr) (st : St) : runI cfg 19 n19_28 fr st = some (.ret, fr, st) := run_ret (by kernel_rfl)
@[simp] theorem e19_29 (fr : Fr) (st : St) : runI cfg 19 n19_29 fr st = some (.normal, fr, st) := run_skip (by kernel_rfl)
@[simp] theorem e19_30 (fr : Fr) (st : St) : runI cfg 19 n19_30 fr st = ob (lookF fr 0) fun x0 => ob (lookF fr 1) fun x1 => ob (lookF fr 5) fun x5 => ob (binV cfg.P (opAt n19_30 1) .add 3 (.int .i64) x5 (.d (.int .i64 1))) fun x16 => (some (.normal, [(0, x0), (1, x1), (5, x16)], st) : Res) :=
  (runI_reg (c := n19_30) (id := 5) (ops := opsOf n19_30) (draw := false) (by kernel_rfl)).trans (by kernel_rfl)
@[simp] theorem e19_31 (fr : Fr) (st : St) : runI cfg 19 n19_31 fr st = thenR cfg 19 n19_33 (runI cfg 19 n19_32 fr st) := run_seq (by kernel_rfl)
@[simp] theorem e19_32 (fr : Fr) (st : St) : runI cfg 19 n19_32 fr st = (some (.normal, [(4, tt)], st) : Res) :=
  (runI_reg (c := n19_32) (id := 8) (ops := opsOf n19_32) (draw := false) (by kernel_rfl)).trans (by kernel_rfl)
@[simp] theorem e19_33 (fr : Fr) (st : St) : runI cfg 19 n19_33 fr st = some (.ret, fr, st) := run_ret (by kernel_rfl)
@[simp] theorem z19 (fr : Fr) (st : St) : endR cfg Try.f19 (some (.ret, fr, st)) = ob (lookF fr 4) fun x0 => some (x0, st) := end_r.trans (by kernel_rfl)
@[simp] theorem w19 (fr : Fr) (st : St) : endR cfg Try.f19 (some (.normal, fr, st)) = ob (lookF fr 4) fun x0 => some (x0, st) := end_n.trans (by kernel_rfl)
theorem c19 (ts : List T) (st : St) : callI cfg 19 ts st = ob (closeAll ts) fun ts => backR st (endR cfg Try.f19 (runI cfg 19 n19_0 (enumF 0 ts) ⟨[], []⟩)) := call_pure (by kernel_rfl) (by kernel_rfl) (by kernel_rfl) (by kernel_rfl)
/-! 20: fettle.fettlelaw10.awake -/
noncomputable def n20_0 : Code := codeB Try.f20
noncomputable def n20_1 : Code := kid n20_0 false
noncomputable def n20_2 : Code := kid n20_0 true
noncomputable def n20_3 : Code := kid n20_2 false
noncomputable def n20_4 : Code := kid n20_2 true
noncomputable def n20_5 : Code := kid n20_4 false
noncomputable def n20_6 : Code := kid n20_4 true
noncomputable def n20_7 : Code := kid n20_6 false
noncomputable def n20_8 : Code := kid n20_6 true
noncomputable def n20_9 : Code := kid n20_8 false
noncomputable def n20_10 : Code := kid n20_8 true
noncomputable def n20_11 : Code := kid n20_10 false
noncomputable def n20_12 : Code := kid n20_10 true
@[simp] theorem e20_0 (fr : Fr) (st : St) : runI cfg 20 n20_0 fr st = thenR cfg 20 n20_2 (runI cfg 20 n20_1 fr st) := run_seq (by kernel_rfl)
@[simp] theorem e20_1 (fr : Fr) (st : St) : runI cfg 20 n20_1 fr st = (some (.normal, [], st) : Res) :=
  (runI_reg (c := n20_1) (id := 0) (ops := opsOf n20_1) (draw := false) (by kernel_rfl)).trans (by kernel_rfl)
@[simp] theorem e20_2 (fr : Fr) (st : St) : runI cfg 20 n20_2 fr st = thenR cfg 20 n20_4 (runI cfg 20 n20_3 fr st) := run_seq (by kernel_rfl)
@[simp] theorem e20_3 (fr : Fr) (st : St) : runI cfg 20 n20_3 fr st = ob (fillS [(0, 1), (1, 1), (2, 1)] [(.d (.int .i64 0)), (.d (.int .i64 0)), (.d (.string ByteArray.empty))] [(0, (.d (.int .i64 3)))]) fun c0 => ob (fillS [(0, 1), (1, 1), (2, 1)] [(.d (.int .i64 0)), (.d (.int .i64 0)), (.d (.string ByteArray.empty))] [(0, (.d (.int .i64 6)))]) fun c1 => ob (fillA 3 (repeatL [(.d (.int .i64 0)), (.d (.int .i64 0)), (.d (.string ByteArray.empty))] 2) [(0, (.agg c0)), (1, (.agg c1))]) fun c2 => ob (T.toDs c2) fun d2 => ob (fillA 1 (repeatL [(.d (.int .u8 0))] 2) [(0, (.d (.int .u8 97))), (1, (.d (.int .u8 98)))]) fun c3 => ob (T.toDs c3) fun d3 => ob (convV cfg.P (opAt n20_3 4) true (some (.slice 5)) (some (.slice 5)) (some (.int .u8)) (some (.int .u8)) (.sl false 2 d3 .lit)) fun x13 => ob (fillA 1 (repeatL [(.d (.int .u8 0))] 1) [(0, (.d (.int .u8 99)))]) fun c5 => ob (T.toDs c5) fun d5 => ob (convV cfg.P (opAt n20_3 6) true (some (.slice 5)) (some (.slice 5)) (some (.int .u8)) (some (.int .u8)) (.sl false 1 d5 .lit)) fun x15 => ob (fillA 1 (repeatL [nilS] 2) [(0, x13), (1, x15)]) fun c7 => ob (T.toDs c7) fun d7 => ob (callI cfg 16 [(.sl false 2 d2 .lit), (.sl false 2 d7 .lit)] st) fun r8 => (some (.normal, [(1, r8.1)], r8.2) : Res) :=
  (runI_reg (c := n20_3) (id := 1) (ops := opsOf n20_3) (draw := false) (by kernel_rfl)).trans (by kernel_rfl)
@[simp] theorem e20_4 (fr : Fr) (st : St) : runI cfg 20 n20_4 fr st = thenR cfg 20 n20_6 (runI cfg 20 n20_5 fr st) := run_seq (by kernel_rfl)
@[simp] theorem e20_5 (fr : Fr) (st : St) : runI cfg 20 n20_5 fr st = ob (lookF fr 1) fun x1 => ob (callI cfg 17 [x1] st) fun r1 => ob (exV 0 r1.1) fun x21 => ob (exV 1 r1.1) fun x22 => ob (exV 2 r1.1) fun x23 => (some (.normal, [(1, x1), (2, x21), (3, x22), (4, x23)], r1.2) : Res) :=
  (runI_reg (c := n20_5) (id := 2) (ops := opsOf n20_5) (draw := false) (by kernel_rfl)).trans (by kernel_rfl)
@[simp] theorem e20_6 (fr : Fr) (st : St) : runI cfg 20 n20_6 fr st = thenR cfg 20 n20_8 (runI cfg 20 n20_7 fr st) := run_seq (by kernel_rfl)
@[simp] theorem e20_7 (fr : Fr) (st : St) : runI cfg 20 n20_7 fr st = ob (lookF fr 1) fun x1 => ob (lookF fr 2) fun x2 => ob (lookF fr 3) fun x3 => ob (lookF fr 4) fun x4 => ob (callI cfg 18 [x1] st) fun r1 => ob (exV 0 r1.1) fun x27 => ob (exV 1 r1.1) fun x28 => (some (.normal, [(1, x1), (2, x2), (3, x3), (4, x4), (5, x27), (6, x28)], r1.2) : Res) :=
  (runI_reg (c := n20_7) (id := 3) (ops := opsOf n20_7) (draw := false) (by kernel_rfl)).trans (by kernel_rfl)
@[simp] theorem e20_8 (fr : Fr) (st : St) : runI cfg 20 n20_8 fr st = thenR cfg 20 n20_10 (runI cfg 20 n20_9 fr st) := run_seq (by kernel_rfl)
@[simp] theorem e20_9 (fr : Fr) (st : St) : runI cfg 20 n20_9 fr st = ob (lookF fr 1) fun x1 => ob (lookF fr 2) fun x2 => ob (lookF fr 3) fun x3 => ob (lookF fr 4) fun x4 => ob (lookF fr 5) fun x5 => ob (lookF fr 6) fun x6 => ob (fillA 1 (repeatL [(.d (.int .u8 0))] 1) [(0, (.d (.int .u8 0)))]) fun c1 => ob (T.toDs c1) fun d1 => ob (appV 1 1 st x1 (.sl false 1 d1 .lit)) fun a2 => ob (callI cfg 18 [a2.1] ⟨st.H, a2.2⟩) fun r3 => ob (exV 0 r3.1) fun x34 => ob (exV 1 r3.1) fun x35 => (some (.normal, [(2, x2), (3, x3), (4, x4), (5, x5), (6, x6), (8, x35)], r3.2) : Res) :=
  (runI_reg (c := n20_9) (id := 4) (ops := opsOf n20_9) (draw := false) (by kernel_rfl)).trans (by kernel_rfl)
@[simp] theorem e20_10 (fr : Fr) (st : St) : runI cfg 20 n20_10 fr st = thenR cfg 20 n20_12 (runI cfg 20 n20_11 fr st) := run_seq (by kernel_rfl)
@[simp] theorem e20_11 (fr : Fr) (st : St) : runI cfg 20 n20_11 fr st = ob (lookF fr 2) fun x2 => ob (lookF fr 3) fun x3 => ob (lookF fr 4) fun x4 => ob (lookF fr 5) fun x5 => ob (lookF fr 6) fun x6 => ob (lookF fr 8) fun x8 => gC x4 (none) (ob (lenV (.slice 47) st.H x2) fun x39 => ob (binV cfg.P (opAt n20_11 4) .eql 3 (.int .i64) x39 (.d (.int .i64 2))) fun x40 => gC x40 (none) (ob (lenV (.slice 31) st.H x3) fun x44 => ob (binV cfg.P (opAt n20_11 9) .eql 3 (.int .i64) x44 (.d (.int .i64 2))) fun x45 => gC x45 (none) (ob (ixV 1 x3 (.d (.int .i64 0))) fun x49 => ob (loadV 1 false st.H x49) fun x50 => ob (convV cfg.P (opAt n20_11 15) false (some (.slice 5)) (some .string) (some (.int .u8)) none x50) fun x51 => ob (binV cfg.P (opAt n20_11 16) .eql 9 .string x51 (.d (.string ⟨#[97, 98]⟩))) fun x52 => gC x52 (none) (gC x6 (none) (ob (convV cfg.P (opAt n20_11 23) false (some (.slice 5)) (some .string) (some (.int .u8)) none x5) fun x59 => ob (binV cfg.P (opAt n20_11 24) .eql 9 .string x59 (.d (.string ⟨#[99, 98, 97]⟩))) fun x60 => gC x60 (none) (ob (notV cfg.P (opAt n20_11 28) .not x8) fun x64 => (some (.normal, [(0, x64)], st) : Res)) ((some (.normal, [(0, ff)], st) : Res))) ((some (.normal, [(0, ff)], st) : Res))) ((some (.normal, [(0, ff)], st) : Res))) ((some (.normal, [(0, ff)], st) : Res))) ((some (.normal, [(0, ff)], st) : Res))) ((some (.normal, [(0, ff)], st) : Res)) :=
  (runI_reg (c := n20_11) (id := 5) (ops := opsOf n20_11) (draw := false) (by kernel_rfl)).trans (by kernel_rfl)
@[simp] theorem e20_12 (fr : Fr) (st : St) : runI cfg 20 n20_12 fr st = some (.ret, fr, st) := run_ret (by kernel_rfl)
@[simp] theorem z20 (fr : Fr) (st : St) : endR cfg Try.f20 (some (.ret, fr, st)) = ob (lookF fr 0) fun x0 => some (x0, st) := end_r.trans (by kernel_rfl)
@[simp] theorem w20 (fr : Fr) (st : St) : endR cfg Try.f20 (some (.normal, fr, st)) = ob (lookF fr 0) fun x0 => some (x0, st) := end_n.trans (by kernel_rfl)
theorem c20 (ts : List T) (st : St) : callI cfg 20 ts st = ob (closeAll ts) fun ts => backR st (endR cfg Try.f20 (runI cfg 20 n20_0 (enumF 0 ts) ⟨[], []⟩)) := call_pure (by kernel_rfl) (by kernel_rfl) (by kernel_rfl) (by kernel_rfl)
/-! 21: fettle.fettlelaw6.Act -/
noncomputable def n21_0 : Code := codeB Try.f21
noncomputable def n21_1 : Code := kid n21_0 false
noncomputable def n21_2 : Code := kid n21_0 true
noncomputable def n21_3 : Code := kid n21_2 false
noncomputable def n21_4 : Code := kid n21_2 true
noncomputable def n21_5 : Code := kid n21_4 false
noncomputable def n21_6 : Code := kid n21_4 true
noncomputable def n21_7 : Code := kid n21_6 false
noncomputable def n21_8 : Code := kid n21_7 false
noncomputable def n21_9 : Code := kid n21_7 true
noncomputable def n21_10 : Code := kid n21_9 false
noncomputable def n21_11 : Code := kid n21_10 false
noncomputable def n21_12 : Code := kid n21_11 false
noncomputable def n21_13 : Code := kid n21_12 false
noncomputable def n21_14 : Code := kid n21_12 true
noncomputable def n21_15 : Code := kid n21_14 false
noncomputable def n21_16 : Code := kid n21_14 true
noncomputable def n21_17 : Code := kid n21_11 true
noncomputable def n21_18 : Code := kid n21_17 false
noncomputable def n21_19 : Code := kid n21_18 false
noncomputable def n21_20 : Code := kid n21_19 false
noncomputable def n21_21 : Code := kid n21_19 true
noncomputable def n21_22 : Code := kid n21_21 false
noncomputable def n21_23 : Code := kid n21_21 true
noncomputable def n21_24 : Code := kid n21_23 false
noncomputable def n21_25 : Code := kid n21_24 false
noncomputable def n21_26 : Code := kid n21_24 true
noncomputable def n21_27 : Code := kid n21_26 false
noncomputable def n21_28 : Code := kid n21_26 true
noncomputable def n21_29 : Code := kid n21_23 true
noncomputable def n21_30 : Code := kid n21_29 false
noncomputable def n21_31 : Code := kid n21_30 false
noncomputable def n21_32 : Code := kid n21_30 true
noncomputable def n21_33 : Code := kid n21_32 false
noncomputable def n21_34 : Code := kid n21_32 true
noncomputable def n21_35 : Code := kid n21_29 true
noncomputable def n21_36 : Code := kid n21_35 false
noncomputable def n21_37 : Code := kid n21_36 false
noncomputable def n21_38 : Code := kid n21_36 true
noncomputable def n21_39 : Code := kid n21_38 false
noncomputable def n21_40 : Code := kid n21_39 false
noncomputable def n21_41 : Code := kid n21_40 false
noncomputable def n21_42 : Code := kid n21_40 true
noncomputable def n21_43 : Code := kid n21_42 false
noncomputable def n21_44 : Code := kid n21_42 true
noncomputable def n21_45 : Code := kid n21_39 true
noncomputable def n21_46 : Code := kid n21_45 false
noncomputable def n21_47 : Code := kid n21_45 true
noncomputable def n21_48 : Code := kid n21_47 false
noncomputable def n21_49 : Code := kid n21_47 true
noncomputable def n21_50 : Code := kid n21_49 false
noncomputable def n21_51 : Code := kid n21_49 true
noncomputable def n21_52 : Code := kid n21_51 false
noncomputable def n21_53 : Code := kid n21_52 false
noncomputable def n21_54 : Code := kid n21_52 true
noncomputable def n21_55 : Code := kid n21_54 false
noncomputable def n21_56 : Code := kid n21_54 true
noncomputable def n21_57 : Code := kid n21_51 true
noncomputable def n21_58 : Code := kid n21_57 false
noncomputable def n21_59 : Code := kid n21_57 true
noncomputable def n21_60 : Code := kid n21_35 true
noncomputable def n21_61 : Code := kid n21_17 true
noncomputable def n21_62 : Code := kid n21_6 true
noncomputable def n21_63 : Code := kid n21_62 false
noncomputable def n21_64 : Code := kid n21_63 false
noncomputable def n21_65 : Code := kid n21_63 true
noncomputable def n21_66 : Code := kid n21_65 false
noncomputable def n21_67 : Code := kid n21_65 true
noncomputable def n21_68 : Code := kid n21_62 true
noncomputable def n21_69 : Code := kid n21_68 false
noncomputable def n21_70 : Code := kid n21_68 true
@[simp] theorem e21_0 (fr : Fr) (st : St) : runI cfg 21 n21_0 fr st = thenR cfg 21 n21_2 (runI cfg 21 n21_1 fr st) := run_seq (by kernel_rfl)
@[simp] theorem e21_1 (fr : Fr) (st : St) : runI cfg 21 n21_1 fr st = ob (lookF fr 0) fun x0 => (some (.normal, [(0, x0)], st) : Res) :=
  (runI_reg (c := n21_1) (id := 0) (ops := opsOf n21_1) (draw := false) (by kernel_rfl)).trans (by kernel_rfl)
@[simp] theorem e21_2 (fr : Fr) (st : St) : runI cfg 21 n21_2 fr st = thenR cfg 21 n21_4 (runI cfg 21 n21_3 fr st) := run_seq (by kernel_rfl)
@[simp] theorem e21_3 (fr : Fr) (st : St) : runI cfg 21 n21_3 fr st = ob (lookF fr 0) fun x0 => (some (.normal, [(0, x0), (3, nilS)], st) : Res) :=
  (runI_reg (c := n21_3) (id := 1) (ops := opsOf n21_3) (draw := false) (by kernel_rfl)).trans (by kernel_rfl)
@[simp] theorem e21_4 (fr : Fr) (st : St) : runI cfg 21 n21_4 fr st = thenR cfg 21 n21_6 (runI cfg 21 n21_5 fr st) := run_seq (by kernel_rfl)
@[simp] theorem e21_5 (fr : Fr) (st : St) : runI cfg 21 n21_5 fr st = ob (lookF fr 0) fun x0 => ob (lookF fr 3) fun x3 => ob (fillA 1 (repeatL [(.d (.string ByteArray.empty))] 6) [(0, (.d (.string ByteArray.empty))), (1, (.d (.string ⟨#[97]⟩))), (2, (.d (.string ⟨#[104, 105, 32, 116, 104, 101, 114, 101]⟩))), (3, (.d (.string ⟨#[45]⟩))), (4, (.d (.string ⟨#[120, 121, 122]⟩))), (5, (.d (.string ⟨#[48, 49, 50, 51, 52, 53, 54, 55, 56, 57, 48, 49, 50, 51, 52, 53, 54, 55, 56, 57, 48, 49, 50, 51, 52, 53, 54, 55, 56, 57, 48, 49, 50, 51, 52, 53, 54, 55, 56, 57, 48, 49, 50, 51, 52, 53, 54, 55, 56, 57, 48, 49, 50, 51, 52, 53, 54, 55, 56, 57, 48, 49, 50, 51]⟩)))]) fun c0 => ob (T.toDs c0) fun d0 => (some (.normal, [(0, x0), (3, x3), (4, (.sl false 6 d0 .lit))], st) : Res) :=
  (runI_reg (c := n21_5) (id := 2) (ops := opsOf n21_5) (draw := false) (by kernel_rfl)).trans (by kernel_rfl)
@[simp] theorem e21_6 (fr : Fr) (st : St) : runI cfg 21 n21_6 fr st = thenR cfg 21 n21_62 (runI cfg 21 n21_7 fr st) := run_seq (by kernel_rfl)
@[simp] theorem e21_7 (fr : Fr) (st : St) : runI cfg 21 n21_7 fr st = thenR cfg 21 n21_9 (runI cfg 21 n21_8 fr st) := run_seq (by kernel_rfl)
@[simp] theorem e21_8 (fr : Fr) (st : St) : runI cfg 21 n21_8 fr st = ob (lookF fr 0) fun x0 => ob (lookF fr 3) fun x3 => ob (lookF fr 4) fun x4 => (some (.normal, [(0, x0), (3, x3), (4, x4), (5, (.d (.int .i64 0)))], st) : Res) :=
  (runI_reg (c := n21_8) (id := 3) (ops := opsOf n21_8) (draw := false) (by kernel_rfl)).trans (by kernel_rfl)
@[simp] theorem e21_9 (fr : Fr) (st : St) : runI cfg 21 n21_9 fr st = blockI 0 (runI cfg 21 n21_10 fr st) := run_block (by kernel_rfl)
theorem l21_10 (fr : Fr) (st : St) : runI cfg 21 n21_10 fr st = loopR cfg 21 n21_10 st.H.length (runI cfg 21 n21_11 fr st) := run_loop (by kernel_rfl)
@[simp] theorem e21_11 (fr : Fr) (st : St) : runI cfg 21 n21_11 fr st = thenR cfg 21 n21_17 (runI cfg 21 n21_12 fr st) := run_seq (by kernel_rfl)
@[simp] theorem e21_12 (fr : Fr) (st : St) : runI cfg 21 n21_12 fr st = thenR cfg 21 n21_14 (runI cfg 21 n21_13 fr st) := run_seq (by kernel_rfl)
@[simp] theorem e21_13 (fr : Fr) (st : St) : runI cfg 21 n21_13 fr st = ob (lookF fr 0) fun x0 => ob (lookF fr 3) fun x3 => ob (lookF fr 4) fun x4 => ob (lookF fr 5) fun x5 => ob (lenV (.slice 3) st.H x0) fun x11 => ob (binV cfg.P (opAt n21_13 3) .lss 3 (.int .i64) x5 x11) fun x12 => gC x12 (none) (ob (binV cfg.P (opAt n21_13 6) .lss 3 (.int .i64) x5 (.d (.int .i64 6))) fun x15 => (some (.normal, [(0, x0), (3, x3), (4, x4), (5, x5), (16, x15)], st) : Res)) ((some (.normal, [(0, x0), (3, x3), (4, x4), (5, x5), (16, ff)], st) : Res)) :=
  (runI_reg (c := n21_13) (id := 4) (ops := opsOf n21_13) (draw := false) (by kernel_rfl)).trans (by kernel_rfl)
@[simp] theorem e21_14 (fr : Fr) (st : St) : runI cfg 21 n21_14 fr st = ob (lookF fr 16) fun v => gC v none (runI cfg 21 n21_15 fr st) (runI cfg 21 n21_16 fr st) := run_cond (x := .tmp 16) (by kernel_rfl)
@[simp] theorem e21_15 (fr : Fr) (st : St) : runI cfg 21 n21_15 fr st = some (.normal, fr, st) := run_skip (by kernel_rfl)
@[simp] theorem e21_16 (fr : Fr) (st : St) : runI cfg 21 n21_16 fr st = some (.exit 0, fr, st) := run_exit (by kernel_rfl)
@[simp] theorem e21_17 (fr : Fr) (st : St) : runI cfg 21 n21_17 fr st = thenR cfg 21 n21_61 (runI cfg 21 n21_18 fr st) := run_seq (by kernel_rfl)
@[simp] theorem e21_18 (fr : Fr) (st : St) : runI cfg 21 n21_18 fr st = blockI 1 (runI cfg 21 n21_19 fr st) := run_block (by kernel_rfl)
@[simp] theorem e21_19 (fr : Fr) (st : St) : runI cfg 21 n21_19 fr st = thenR cfg 21 n21_21 (runI cfg 21 n21_20 fr st) := run_seq (by kernel_rfl)
@[simp] theorem e21_20 (fr : Fr) (st : St) : runI cfg 21 n21_20 fr st = ob (lookF fr 0) fun x0 => ob (lookF fr 3) fun x3 => ob (lookF fr 4) fun x4 => ob (lookF fr 5) fun x5 => ob (ixV 1 x0 x5) fun x21 => ob (loadV 1 false st.H x21) fun x22 => (some (.normal, [(0, x0), (3, x3), (4, x4), (5, x5), (6, x22)], st) : Res) :=
  (runI_reg (c := n21_20) (id := 6) (ops := opsOf n21_20) (draw := false) (by kernel_rfl)).trans (by kernel_rfl)
@[simp] theorem e21_21 (fr : Fr) (st : St) : runI cfg 21 n21_21 fr st = thenR cfg 21 n21_23 (runI cfg 21 n21_22 fr st) := run_seq (by kernel_rfl)
@[simp] theorem e21_22 (fr : Fr) (st : St) : runI cfg 21 n21_22 fr st = ob (lookF fr 0) fun x0 => ob (lookF fr 3) fun x3 => ob (lookF fr 4) fun x4 => ob (lookF fr 5) fun x5 => ob (lookF fr 6) fun x6 => ob (binV cfg.P (opAt n21_22 1) .and 3 (.int .i64) x6 (.d (.int .i64 7))) fun x24 => ob (binV cfg.P (opAt n21_22 2) .add 3 (.int .i64) (.d (.int .i64 4)) x24) fun x25 => ob (fillS [(0, 1), (1, 1), (2, 1)] [(.d (.int .i64 0)), (.d (.int .i64 0)), (.d (.string ByteArray.empty))] [(0, x25)]) fun c3 => ob (storeV 3 (st.H ++ [.cells [(.d (.int .i64 0)), (.d (.int .i64 0)), (.d (.string ByteArray.empty))]]) (.ptr st.H.length 0) (.agg c3)) fun h5 => (some (.normal, [(0, x0), (3, x3), (4, x4), (5, x5), (6, x6), (7, (.ptr st.H.length 0))], ⟨h5, st.E⟩) : Res) :=
  (runI_reg (c := n21_22) (id := 7) (ops := opsOf n21_22) (draw := false) (by kernel_rfl)).trans (by kernel_rfl)
@[simp] theorem e21_23 (fr : Fr) (st : St) : runI cfg 21 n21_23 fr st = thenR cfg 21 n21_29 (runI cfg 21 n21_24 fr st) := run_seq (by kernel_rfl)
@[simp] theorem e21_24 (fr : Fr) (st : St) : runI cfg 21 n21_24 fr st = thenR cfg 21 n21_26 (runI cfg 21 n21_25 fr st) := run_seq (by kernel_rfl)
@[simp] theorem e21_25 (fr : Fr) (st : St) : runI cfg 21 n21_25 fr st = ob (lookF fr 0) fun x0 => ob (lookF fr 3) fun x3 => ob (lookF fr 4) fun x4 => ob (lookF fr 5) fun x5 => ob (lookF fr 6) fun x6 => ob (lookF fr 7) fun x7 => ob (binV cfg.P (opAt n21_25 1) .eql 3 (.int .i64) x5 (.d (.int .i64 0))) fun x28 => (some (.normal, [(0, x0), (3, x3), (4, x4), (5, x5), (6, x6), (7, x7), (28, x28)], st) : Res) :=
  (runI_reg (c := n21_25) (id := 8) (ops := opsOf n21_25) (draw := false) (by kernel_rfl)).trans (by kernel_rfl)
@[simp] theorem e21_26 (fr : Fr) (st : St) : runI cfg 21 n21_26 fr st = ob (lookF fr 28) fun v => gC v none (runI cfg 21 n21_27 fr st) (runI cfg 21 n21_28 fr st) := run_cond (x := .tmp 28) (by kernel_rfl)
@[simp] theorem e21_27 (fr : Fr) (st : St) : runI cfg 21 n21_27 fr st = ob (lookF fr 0) fun x0 => ob (lookF fr 3) fun x3 => ob (lookF fr 4) fun x4 => ob (lookF fr 5) fun x5 => ob (lookF fr 6) fun x6 => ob (lookF fr 7) fun x7 => ob (binV cfg.P (opAt n21_27 1) .and 3 (.int .i64) x6 (.d (.int .i64 255))) fun x30 => ob (binV cfg.P (opAt n21_27 2) .rem 3 (.int .i64) x30 (.d (.int .i64 3))) fun x31 => ob (binV cfg.P (opAt n21_27 3) .add 3 (.int .i64) (.d (.int .i64 1)) x31) fun x32 => ob (addrV 0 x7) fun x33 => ob (storeV 1 st.H x33 x32) fun h5 => (some (.normal, [(0, x0), (3, x3), (4, x4), (5, x5), (6, x6), (7, x7)], ⟨h5, st.E⟩) : Res) :=
  (runI_reg (c := n21_27) (id := 9) (ops := opsOf n21_27) (draw := false) (by kernel_rfl)).trans (by kernel_rfl)
@[simp] theorem e21_28 (fr : Fr) (st : St) : runI cfg 21 n21_28 fr st = some (.normal, fr, st) := run_skip (by kernel_rfl)
@[simp] theorem e21_29 (fr : Fr) (st : St) : runI cfg 21 n21_29 fr st = thenR cfg 21 n21_35 (runI cfg 21 n21_30 fr st) := run_seq (by kernel_rfl)
@[simp] theorem e21_30 (fr : Fr) (st : St) : runI cfg 21 n21_30 fr st = thenR cfg 21 n21_32 (runI cfg 21 n21_31 fr st) := run_seq (by kernel_rfl)
@[simp] theorem e21_31 (fr : Fr) (st : St) : runI cfg 21 n21_31 fr st = ob (lookF fr 0) fun x0 => ob (lookF fr 3) fun x3 => ob (lookF fr 4) fun x4 => ob (lookF fr 5) fun x5 => ob (lookF fr 6) fun x6 => ob (lookF fr 7) fun x7 => ob (addrV 0 x7) fun x34 => ob (loadV 1 false st.H x34) fun x35 => ob (binV cfg.P (opAt n21_31 2) .eql 3 (.int .i64) x35 (.d (.int .i64 11))) fun x36 => gC x36 (none) (ob (binV cfg.P (opAt n21_31 5) .shr 3 (.int .i64) x6 (.d (.int .u64 8))) fun x39 => ob (binV cfg.P (opAt n21_31 6) .and 3 (.int .i64) x39 (.d (.int .i64 3))) fun x40 => ob (binV cfg.P (opAt n21_31 7) .gtr 3 (.int .i64) x40 (.d (.int .i64 0))) fun x41 => (some (.normal, [(0, x0), (3, x3), (4, x4), (5, x5), (6, x6), (7, x7), (42, x41)], st) : Res)) ((some (.normal, [(0, x0), (3, x3), (4, x4), (5, x5), (6, x6), (7, x7), (42, ff)], st) : Res)) :=
  (runI_reg (c := n21_31) (id := 10) (ops := opsOf n21_31) (draw := false) (by kernel_rfl)).trans (by kernel_rfl)
@[simp] theorem e21_32 (fr : Fr) (st : St) : runI cfg 21 n21_32 fr st = ob (lookF fr 42) fun v => gC v none (runI cfg 21 n21_33 fr st) (runI cfg 21 n21_34 fr st) := run_cond (x := .tmp 42) (by kernel_rfl)
@[simp] theorem e21_33 (fr : Fr) (st : St) : runI cfg 21 n21_33 fr st = ob (lookF fr 0) fun x0 => ob (lookF fr 3) fun x3 => ob (lookF fr 4) fun x4 => ob (lookF fr 5) fun x5 => ob (lookF fr 6) fun x6 => ob (lookF fr 7) fun x7 => ob (addrV 0 x7) fun x43 => ob (storeV 1 st.H x43 (.d (.int .i64 6))) fun h1 => (some (.normal, [(0, x0), (3, x3), (4, x4), (5, x5), (6, x6), (7, x7)], ⟨h1, st.E⟩) : Res) :=
  (runI_reg (c := n21_33) (id := 11) (ops := opsOf n21_33) (draw := false) (by kernel_rfl)).trans (by kernel_rfl)
@[simp] theorem e21_34 (fr : Fr) (st : St) : runI cfg 21 n21_34 fr st = some (.normal, fr, st) := run_skip (by kernel_rfl)
@[simp] theorem e21_35 (fr : Fr) (st : St) : runI cfg 21 n21_35 fr st = thenR cfg 21 n21_60 (runI cfg 21 n21_36 fr st) := run_seq (by kernel_rfl)
@[simp] theorem e21_36 (fr : Fr) (st : St) : runI cfg 21 n21_36 fr st = thenR cfg 21 n21_38 (runI cfg 21 n21_37 fr st) := run_seq (by kernel_rfl)
@[simp] theorem e21_37 (fr : Fr) (st : St) : runI cfg 21 n21_37 fr st = ob (lookF fr 0) fun x0 => ob (lookF fr 3) fun x3 => ob (lookF fr 4) fun x4 => ob (lookF fr 5) fun x5 => ob (lookF fr 6) fun x6 => ob (lookF fr 7) fun x7 => ob (addrV 0 x7) fun x44 => ob (loadV 1 false st.H x44) fun x45 => (some (.normal, [(0, x0), (3, x3), (4, x4), (5, x5), (6, x6), (7, x7), (45, x45)], st) : Res) :=
  (runI_reg (c := n21_37) (id := 12) (ops := opsOf n21_37) (draw := false) (by kernel_rfl)).trans (by kernel_rfl)
@[simp] theorem e21_38 (fr : Fr) (st : St) : runI cfg 21 n21_38 fr st = blockI 2 (runI cfg 21 n21_39 fr st) := run_block (by kernel_rfl)
@[simp] theorem e21_39 (fr : Fr) (st : St) : runI cfg 21 n21_39 fr st = thenR cfg 21 n21_45 (runI cfg 21 n21_40 fr st) := run_seq (by kernel_rfl)
@[simp] theorem e21_40 (fr : Fr) (st : St) : runI cfg 21 n21_40 fr st = thenR cfg 21 n21_42 (runI cfg 21 n21_41 fr st) := run_seq (by kernel_rfl)
@[simp] theorem e21_41 (fr : Fr) (st : St) : runI cfg 21 n21_41 fr st = ob (lookF fr 0) fun x0 => ob (lookF fr 3) fun x3 => ob (lookF fr 4) fun x4 => ob (lookF fr 5) fun x5 => ob (lookF fr 6) fun x6 => ob (lookF fr 7) fun x7 => ob (lookF fr 45) fun x45 => ob (binV cfg.P (opAt n21_41 0) .eql 3 (.int .i64) x45 (.d (.int .i64 1))) fun x47 => (some (.normal, [(0, x0), (3, x3), (4, x4), (5, x5), (6, x6), (7, x7), (45, x45), (46, x47)], st) : Res) :=
  (runI_reg (c := n21_41) (id := 13) (ops := opsOf n21_41) (draw := false) (by kernel_rfl)).trans (by kernel_rfl)
@[simp] theorem e21_42 (fr : Fr) (st : St) : runI cfg 21 n21_42 fr st = ob (lookF fr 46) fun v => gC v none (runI cfg 21 n21_43 fr st) (runI cfg 21 n21_44 fr st) := run_cond (x := .tmp 46) (by kernel_rfl)
@[simp] theorem e21_43 (fr : Fr) (st : St) : runI cfg 21 n21_43 fr st = some (.normal, fr, st) := run_skip (by kernel_rfl)
@[simp] theorem e21_44 (fr : Fr) (st : St) : runI cfg 21 n21_44 fr st = ob (lookF fr 0) fun x0 => ob (lookF fr 3) fun x3 => ob (lookF fr 4) fun x4 => ob (lookF fr 5) fun x5 => ob (lookF fr 6) fun x6 => ob (lookF fr 7) fun x7 => ob (lookF fr 45) fun x45 => ob (binV cfg.P (opAt n21_44 0) .eql 3 (.int .i64) x45 (.d (.int .i64 10))) fun x48 => (some (.normal, [(0, x0), (3, x3), (4, x4), (5, x5), (6, x6), (7, x7), (45, x45), (46, x48)], st) : Res) :=
  (runI_reg (c := n21_44) (id := 14) (ops := opsOf n21_44) (draw := false) (by kernel_rfl)).trans (by kernel_rfl)
@[simp] theorem e21_45 (fr : Fr) (st : St) : runI cfg 21 n21_45 fr st = ob (lookF fr 46) fun v => gC v none (runI cfg 21 n21_46 fr st) (runI cfg 21 n21_47 fr st) := run_cond (x := .tmp 46) (by kernel_rfl)
@[simp] theorem e21_46 (fr : Fr) (st : St) : runI cfg 21 n21_46 fr st = ob (lookF fr 0) fun x0 => ob (lookF fr 3) fun x3 => ob (lookF fr 4) fun x4 => ob (lookF fr 5) fun x5 => ob (lookF fr 6) fun x6 => ob (lookF fr 7) fun x7 => ob (binV cfg.P (opAt n21_46 2) .shr 3 (.int .i64) x6 (.d (.int .u64 10))) fun x51 => ob (binV cfg.P (opAt n21_46 3) .and 3 (.int .i64) x51 (.d (.int .i64 255))) fun x52 => ob (lenV (.slice 9) st.H x4) fun x54 => ob (binV cfg.P (opAt n21_46 6) .rem 3 (.int .i64) x52 x54) fun x55 => ob (ixV 1 x4 x55) fun x56 => ob (loadV 1 false st.H x56) fun x57 => ob (addrV 2 x7) fun x58 => ob (storeV 1 st.H x58 x57) fun h10 => (some (.normal, [(0, x0), (3, x3), (4, x4), (5, x5), (7, x7)], ⟨h10, st.E⟩) : Res) :=
  (runI_reg (c := n21_46) (id := 15) (ops := opsOf n21_46) (draw := false) (by kernel_rfl)).trans (by kernel_rfl)
@[simp] theorem e21_47 (fr : Fr) (st : St) : runI cfg 21 n21_47 fr st = thenR cfg 21 n21_49 (runI cfg 21 n21_48 fr st) := run_seq (by kernel_rfl)
@[simp] theorem e21_48 (fr : Fr) (st : St) : runI cfg 21 n21_48 fr st = ob (lookF fr 0) fun x0 => ob (lookF fr 3) fun x3 => ob (lookF fr 4) fun x4 => ob (lookF fr 5) fun x5 => ob (lookF fr 6) fun x6 => ob (lookF fr 7) fun x7 => ob (lookF fr 45) fun x45 => ob (binV cfg.P (opAt n21_48 0) .eql 3 (.int .i64) x45 (.d (.int .i64 2))) fun x60 => (some (.normal, [(0, x0), (3, x3), (4, x4), (5, x5), (6, x6), (7, x7), (45, x45), (59, x60)], st) : Res) :=
  (runI_reg (c := n21_48) (id := 16) (ops := opsOf n21_48) (draw := false) (by kernel_rfl)).trans (by kernel_rfl)
@[simp] theorem e21_49 (fr : Fr) (st : St) : runI cfg 21 n21_49 fr st = ob (lookF fr 59) fun v => gC v none (runI cfg 21 n21_50 fr st) (runI cfg 21 n21_51 fr st) := run_cond (x := .tmp 59) (by kernel_rfl)
@[simp] theorem e21_50 (fr : Fr) (st : St) : runI cfg 21 n21_50 fr st = ob (lookF fr 0) fun x0 => ob (lookF fr 3) fun x3 => ob (lookF fr 4) fun x4 => ob (lookF fr 5) fun x5 => ob (lookF fr 6) fun x6 => ob (lookF fr 7) fun x7 => ob (binV cfg.P (opAt n21_50 1) .shr 3 (.int .i64) x6 (.d (.int .u64 10))) fun x62 => ob (binV cfg.P (opAt n21_50 2) .and 3 (.int .i64) x62 (.d (.int .i64 3))) fun x63 => ob (addrV 1 x7) fun x64 => ob (storeV 1 st.H x64 x63) fun h4 => (some (.normal, [(0, x0), (3, x3), (4, x4), (5, x5), (7, x7)], ⟨h4, st.E⟩) : Res) :=
  (runI_reg (c := n21_50) (id := 17) (ops := opsOf n21_50) (draw := false) (by kernel_rfl)).trans (by kernel_rfl)
@[simp] theorem e21_51 (fr : Fr) (st : St) : runI cfg 21 n21_51 fr st = thenR cfg 21 n21_57 (runI cfg 21 n21_52 fr st) := run_seq (by kernel_rfl)
@[simp] theorem e21_52 (fr : Fr) (st : St) : runI cfg 21 n21_52 fr st = thenR cfg 21 n21_54 (runI cfg 21 n21_53 fr st) := run_seq (by kernel_rfl)
@[simp] theorem e21_53 (fr : Fr) (st : St) : runI cfg 21 n21_53 fr st = ob (lookF fr 0) fun x0 => ob (lookF fr 3) fun x3 => ob (lookF fr 4) fun x4 => ob (lookF fr 5) fun x5 => ob (lookF fr 6) fun x6 => ob (lookF fr 7) fun x7 => ob (lookF fr 45) fun x45 => ob (binV cfg.P (opAt n21_53 0) .eql 3 (.int .i64) x45 (.d (.int .i64 7))) fun x66 => (some (.normal, [(0, x0), (3, x3), (4, x4), (5, x5), (6, x6), (7, x7), (45, x45), (65, x66)], st) : Res) :=
  (runI_reg (c := n21_53) (id := 18) (ops := opsOf n21_53) (draw := false) (by kernel_rfl)).trans (by kernel_rfl)
@[simp] theorem e21_54 (fr : Fr) (st : St) : runI cfg 21 n21_54 fr st = ob (lookF fr 65) fun v => gC v none (runI cfg 21 n21_55 fr st) (runI cfg 21 n21_56 fr st) := run_cond (x := .tmp 65) (by kernel_rfl)
@[simp] theorem e21_55 (fr : Fr) (st : St) : runI cfg 21 n21_55 fr st = some (.normal, fr, st) := run_skip (by kernel_rfl)
@[simp] theorem e21_56 (fr : Fr) (st : St) : runI cfg 21 n21_56 fr st = ob (lookF fr 0) fun x0 => ob (lookF fr 3) fun x3 => ob (lookF fr 4) fun x4 => ob (lookF fr 5) fun x5 => ob (lookF fr 6) fun x6 => ob (lookF fr 7) fun x7 => ob (lookF fr 45) fun x45 => ob (binV cfg.P (opAt n21_56 0) .eql 3 (.int .i64) x45 (.d (.int .i64 8))) fun x67 => (some (.normal, [(0, x0), (3, x3), (4, x4), (5, x5), (6, x6), (7, x7), (65, x67)], st) : Res) :=
  (runI_reg (c := n21_56) (id := 19) (ops := opsOf n21_56) (draw := false) (by kernel_rfl)).trans (by kernel_rfl)
@[simp] theorem e21_57 (fr : Fr) (st : St) : runI cfg 21 n21_57 fr st = ob (lookF fr 65) fun v => gC v none (runI cfg 21 n21_58 fr st) (runI cfg 21 n21_59 fr st) := run_cond (x := .tmp 65) (by kernel_rfl)
@[simp] theorem e21_58 (fr : Fr) (st : St) : runI cfg 21 n21_58 fr st = ob (lookF fr 0) fun x0 => ob (lookF fr 3) fun x3 => ob (lookF fr 4) fun x4 => ob (lookF fr 5) fun x5 => ob (lookF fr 6) fun x6 => ob (lookF fr 7) fun x7 => ob (binV cfg.P (opAt n21_58 1) .shr 3 (.int .i64) x6 (.d (.int .u64 10))) fun x69 => ob (binV cfg.P (opAt n21_58 2) .and 3 (.int .i64) x69 (.d (.int .i64 31))) fun x70 => ob (addrV 1 x7) fun x71 => ob (storeV 1 st.H x71 x70) fun h4 => (some (.normal, [(0, x0), (3, x3), (4, x4), (5, x5), (7, x7)], ⟨h4, st.E⟩) : Res) :=
  (runI_reg (c := n21_58) (id := 20) (ops := opsOf n21_58) (draw := false) (by kernel_rfl)).trans (by kernel_rfl)
@[simp] theorem e21_59 (fr : Fr) (st : St) : runI cfg 21 n21_59 fr st = some (.normal, fr, st) := run_skip (by kernel_rfl)
@[simp] theorem e21_60 (fr : Fr) (st : St) : runI cfg 21 n21_60 fr st = ob (lookF fr 0) fun x0 => ob (lookF fr 3) fun x3 => ob (lookF fr 4) fun x4 => ob (lookF fr 5) fun x5 => ob (lookF fr 7) fun x7 => ob (loadV 3 true st.H x7) fun x73 => ob (fillA 3 (repeatL [(.d (.int .i64 0)), (.d (.int .i64 0)), (.d (.string ByteArray.empty))] 1) [(0, x73)]) fun c2 => ob (T.toDs c2) fun d2 => ob (appV 3 32 st x3 (.sl false 1 d2 .lit)) fun a3 => (some (.normal, [(0, x0), (3, a3.1), (4, x4), (5, x5)], ⟨st.H, a3.2⟩) : Res) :=
  (runI_reg (c := n21_60) (id := 21) (ops := opsOf n21_60) (draw := false) (by kernel_rfl)).trans (by kernel_rfl)
@[simp] theorem e21_61 (fr : Fr) (st : St) : runI cfg 21 n21_61 fr st = ob (lookF fr 0) fun x0 => ob (lookF fr 3) fun x3 => ob (lookF fr 4) fun x4 => ob (lookF fr 5) fun x5 => ob (binV cfg.P (opAt n21_61 1) .add 3 (.int .i64) x5 (.d (.int .i64 1))) fun x18 => (some (.normal, [(0, x0), (3, x3), (4, x4), (5, x18)], st) : Res) :=
  (runI_reg (c := n21_61) (id := 5) (ops := opsOf n21_61) (draw := false) (by kernel_rfl)).trans (by kernel_rfl)
@[simp] theorem e21_62 (fr : Fr) (st : St) : runI cfg 21 n21_62 fr st = thenR cfg 21 n21_68 (runI cfg 21 n21_63 fr st) := run_seq (by kernel_rfl)
@[simp] theorem e21_63 (fr : Fr) (st : St) : runI cfg 21 n21_63 fr st = thenR cfg 21 n21_65 (runI cfg 21 n21_64 fr st) := run_seq (by kernel_rfl)
@[simp] theorem e21_64 (fr : Fr) (st : St) : runI cfg 21 n21_64 fr st = ob (lookF fr 3) fun x3 => ob (lenV (.slice 47) st.H x3) fun x77 => ob (binV cfg.P (opAt n21_64 2) .eql 3 (.int .i64) x77 (.d (.int .i64 0))) fun x78 => (some (.normal, [(3, x3), (78, x78)], st) : Res) :=
  (runI_reg (c := n21_64) (id := 22) (ops := opsOf n21_64) (draw := false) (by kernel_rfl)).trans (by kernel_rfl)
@[simp] theorem e21_65 (fr : Fr) (st : St) : runI cfg 21 n21_65 fr st = ob (lookF fr 78) fun v => gC v none (runI cfg 21 n21_66 fr st) (runI cfg 21 n21_67 fr st) := run_cond (x := .tmp 78) (by kernel_rfl)
@[simp] theorem e21_66 (fr : Fr) (st : St) : runI cfg 21 n21_66 fr st = ob (fillS [(0, 1), (1, 1), (2, 1)] [(.d (.int .i64 0)), (.d (.int .i64 0)), (.d (.string ByteArray.empty))] [(0, (.d (.int .i64 3)))]) fun c0 => ob (fillA 3 (repeatL [(.d (.int .i64 0)), (.d (.int .i64 0)), (.d (.string ByteArray.empty))] 1) [(0, (.agg c0))]) fun c1 => ob (T.toDs c1) fun d1 => (some (.normal, [(3, (.sl false 1 d1 .lit))], st) : Res) :=
  (runI_reg (c := n21_66) (id := 23) (ops := opsOf n21_66) (draw := false) (by kernel_rfl)).trans (by kernel_rfl)
@[simp] theorem e21_67 (fr : Fr) (st : St) : runI cfg 21 n21_67 fr st = some (.normal, fr, st) := run_skip (by kernel_rfl)
@[simp] theorem e21_68 (fr : Fr) (st : St) : runI cfg 21 n21_68 fr st = thenR cfg 21 n21_70 (runI cfg 21 n21_69 fr st) := run_seq (by kernel_rfl)
@[simp] theorem e21_69 (fr : Fr) (st : St) : runI cfg 21 n21_69 fr st = ob (lookF fr 3) fun x3 => (some (.normal, [(2, x3)], st) : Res) :=
  (runI_reg (c := n21_69) (id := 24) (ops := opsOf n21_69) (draw := false) (by kernel_rfl)).trans (by kernel_rfl)
@[simp] theorem e21_70 (fr : Fr) (st : St) : runI cfg 21 n21_70 fr st = some (.ret, fr, st) := run_ret (by kernel_rfl)
@[simp] theorem z21 (fr : Fr) (st : St) : endR cfg Try.f21 (some (.ret, fr, st)) = ob (lookF fr 2) fun x0 => some (x0, st) := end_r.trans (by kernel_rfl)
@[simp] theorem w21 (fr : Fr) (st : St) : endR cfg Try.f21 (some (.normal, fr, st)) = ob (lookF fr 2) fun x0 => some (x0, st) := end_n.trans (by kernel_rfl)
theorem c21 (ts : List T) (st : St) : callI cfg 21 ts st = ob (closeAll ts) fun ts => backR st (endR cfg Try.f21 (runI cfg 21 n21_0 (enumF 0 ts) ⟨[], []⟩)) := call_pure (by kernel_rfl) (by kernel_rfl) (by kernel_rfl) (by kernel_rfl)
/-! 22: fettle.fettleref10.Print -/
noncomputable def n22_0 : Code := codeB Try.f22
noncomputable def n22_1 : Code := kid n22_0 false
noncomputable def n22_2 : Code := kid n22_0 true
noncomputable def n22_3 : Code := kid n22_2 false
noncomputable def n22_4 : Code := kid n22_2 true
noncomputable def n22_5 : Code := kid n22_4 false
noncomputable def n22_6 : Code := kid n22_5 false
noncomputable def n22_7 : Code := kid n22_5 true
noncomputable def n22_8 : Code := kid n22_7 false
noncomputable def n22_9 : Code := kid n22_8 false
noncomputable def n22_10 : Code := kid n22_9 false
noncomputable def n22_11 : Code := kid n22_10 false
noncomputable def n22_12 : Code := kid n22_10 true
noncomputable def n22_13 : Code := kid n22_12 false
noncomputable def n22_14 : Code := kid n22_12 true
noncomputable def n22_15 : Code := kid n22_9 true
noncomputable def n22_16 : Code := kid n22_15 false
noncomputable def n22_17 : Code := kid n22_16 false
noncomputable def n22_18 : Code := kid n22_15 true
noncomputable def n22_19 : Code := kid n22_4 true
noncomputable def n22_20 : Code := kid n22_19 false
noncomputable def n22_21 : Code := kid n22_19 true
@[simp] theorem e22_0 (fr : Fr) (st : St) : runI cfg 22 n22_0 fr st = thenR cfg 22 n22_2 (runI cfg 22 n22_1 fr st) := run_seq (by kernel_rfl)
@[simp] theorem e22_1 (fr : Fr) (st : St) : runI cfg 22 n22_1 fr st = ob (lookF fr 0) fun x0 => ob (lookF fr 1) fun x1 => (some (.normal, [(0, x0), (1, x1)], st) : Res) :=
  (runI_reg (c := n22_1) (id := 0) (ops := opsOf n22_1) (draw := false) (by kernel_rfl)).trans (by kernel_rfl)
@[simp] theorem e22_2 (fr : Fr) (st : St) : runI cfg 22 n22_2 fr st = thenR cfg 22 n22_4 (runI cfg 22 n22_3 fr st) := run_seq (by kernel_rfl)
@[simp] theorem e22_3 (fr : Fr) (st : St) : runI cfg 22 n22_3 fr st = ob (lookF fr 0) fun x0 => ob (lookF fr 1) fun x1 => ob (callI cfg 55 [x0] st) fun r1 => ob (callI cfg 54 [nilS, r1.1] r1.2) fun r2 => ob (lenV (.slice 31) r2.2.H x1) fun x11 => ob (callI cfg 53 [r2.1, x11] r2.2) fun r5 => (some (.normal, [(1, x1), (5, r5.1)], r5.2) : Res) :=
  (runI_reg (c := n22_3) (id := 1) (ops := opsOf n22_3) (draw := false) (by kernel_rfl)).trans (by kernel_rfl)
@[simp] theorem e22_4 (fr : Fr) (st : St) : runI cfg 22 n22_4 fr st = thenR cfg 22 n22_19 (runI cfg 22 n22_5 fr st) := run_seq (by kernel_rfl)
@[simp] theorem e22_5 (fr : Fr) (st : St) : runI cfg 22 n22_5 fr st = thenR cfg 22 n22_7 (runI cfg 22 n22_6 fr st) := run_seq (by kernel_rfl)
@[simp] theorem e22_6 (fr : Fr) (st : St) : runI cfg 22 n22_6 fr st = ob (lookF fr 1) fun x1 => ob (lookF fr 5) fun x5 => (some (.normal, [(1, x1), (5, x5), (6, (.d (.int .i64 0)))], st) : Res) :=
  (runI_reg (c := n22_6) (id := 2) (ops := opsOf n22_6) (draw := false) (by kernel_rfl)).trans (by kernel_rfl)
@[simp] theorem e22_7 (fr : Fr) (st : St) : runI cfg 22 n22_7 fr st = blockI 0 (runI cfg 22 n22_8 fr st) := run_block (by kernel_rfl)
theorem l22_8 (fr : Fr) (st : St) : runI cfg 22 n22_8 fr st = loopR cfg 22 n22_8 st.H.length (runI cfg 22 n22_9 fr st) := run_loop (by kernel_rfl)
@[simp] theorem e22_9 (fr : Fr) (st : St) : runI cfg 22 n22_9 fr st = thenR cfg 22 n22_15 (runI cfg 22 n22_10 fr st) := run_seq (by kernel_rfl)
@[simp] theorem e22_10 (fr : Fr) (st : St) : runI cfg 22 n22_10 fr st = thenR cfg 22 n22_12 (runI cfg 22 n22_11 fr st) := run_seq (by kernel_rfl)
@[simp] theorem e22_11 (fr : Fr) (st : St) : runI cfg 22 n22_11 fr st = ob (lookF fr 1) fun x1 => ob (lookF fr 5) fun x5 => ob (lookF fr 6) fun x6 => ob (lenV (.slice 31) st.H x1) fun x15 => ob (binV cfg.P (opAt n22_11 3) .lss 3 (.int .i64) x6 x15) fun x16 => (some (.normal, [(1, x1), (5, x5), (6, x6), (16, x16)], st) : Res) :=
  (runI_reg (c := n22_11) (id := 3) (ops := opsOf n22_11) (draw := false) (by kernel_rfl)).trans (by kernel_rfl)
@[simp] theorem e22_12 (fr : Fr) (st : St) : runI cfg 22 n22_12 fr st = ob (lookF fr 16) fun v => gC v none (runI cfg 22 n22_13 fr st) (runI cfg 22 n22_14 fr st) := run_cond (x := .tmp 16) (by kernel_rfl)
@[simp] theorem e22_13 (fr : Fr) (st : St) : runI cfg 22 n22_13 fr st = some (.normal, fr, st) := run_skip (by kernel_rfl)
@[simp] theorem e22_14 (fr : Fr) (st : St) : runI cfg 22 n22_14 fr st = some (.exit 0, fr, st) := run_exit (by kernel_rfl)
@[simp] theorem e22_15 (fr : Fr) (st : St) : runI cfg 22 n22_15 fr st = thenR cfg 22 n22_18 (runI cfg 22 n22_16 fr st) := run_seq (by kernel_rfl)
@[simp] theorem e22_16 (fr : Fr) (st : St) : runI cfg 22 n22_16 fr st = blockI 1 (runI cfg 22 n22_17 fr st) := run_block (by kernel_rfl)
@[simp] theorem e22_17 (fr : Fr) (st : St) : runI cfg 22 n22_17 fr st = ob (lookF fr 1) fun x1 => ob (lookF fr 5) fun x5 => ob (lookF fr 6) fun x6 => ob (ixV 1 x1 x6) fun x22 => ob (loadV 1 false st.H x22) fun x23 => ob (callI cfg 54 [x5, x23] st) fun r5 => (some (.normal, [(1, x1), (5, r5.1), (6, x6)], r5.2) : Res) :=
  (runI_reg (c := n22_17) (id := 5) (ops := opsOf n22_17) (draw := false) (by kernel_rfl)).trans (by kernel_rfl)
@[simp] theorem e22_18 (fr : Fr) (st : St) : runI cfg 22 n22_18 fr st = ob (lookF fr 1) fun x1 => ob (lookF fr 5) fun x5 => ob (lookF fr 6) fun x6 => ob (binV cfg.P (opAt n22_18 1) .add 3 (.int .i64) x6 (.d (.int .i64 1))) fun x18 => (some (.normal, [(1, x1), (5, x5), (6, x18)], st) : Res) :=
  (runI_reg (c := n22_18) (id := 4) (ops := opsOf n22_18) (draw := false) (by kernel_rfl)).trans (by kernel_rfl)
@[simp] theorem e22_19 (fr : Fr) (st : St) : runI cfg 22 n22_19 fr st = thenR cfg 22 n22_21 (runI cfg 22 n22_20 fr st) := run_seq (by kernel_rfl)
@[simp] theorem e22_20 (fr : Fr) (st : St) : runI cfg 22 n22_20 fr st = ob (lookF fr 5) fun x5 => (some (.normal, [(4, x5)], st) : Res) :=
  (runI_reg (c := n22_20) (id := 6) (ops := opsOf n22_20) (draw := false) (by kernel_rfl)).trans (by kernel_rfl)
@[simp] theorem e22_21 (fr : Fr) (st : St) : runI cfg 22 n22_21 fr st = some (.ret, fr, st) := run_ret (by kernel_rfl)
@[simp] theorem z22 (fr : Fr) (st : St) : endR cfg Try.f22 (some (.ret, fr, st)) = ob (lookF fr 4) fun x0 => some (x0, st) := end_r.trans (by kernel_rfl)
@[simp] theorem w22 (fr : Fr) (st : St) : endR cfg Try.f22 (some (.normal, fr, st)) = ob (lookF fr 4) fun x0 => some (x0, st) := end_n.trans (by kernel_rfl)
theorem c22 (ts : List T) (st : St) : callI cfg 22 ts st = ob (closeAll ts) fun ts => backR st (endR cfg Try.f22 (runI cfg 22 n22_0 (enumF 0 ts) ⟨[], []⟩)) := call_pure (by kernel_rfl) (by kernel_rfl) (by kernel_rfl) (by kernel_rfl)
/-! 23: fettle.fettleref10.Parse -/
noncomputable def n23_0 : Code := codeB Try.f23
noncomputable def n23_1 : Code := kid n23_0 false
noncomputable def n23_2 : Code := kid n23_0 true
noncomputable def n23_3 : Code := kid n23_2 false
noncomputable def n23_4 : Code := kid n23_2 true
noncomputable def n23_5 : Code := kid n23_4 false
noncomputable def n23_6 : Code := kid n23_4 true
noncomputable def n23_7 : Code := kid n23_6 false
noncomputable def n23_8 : Code := kid n23_6 true
noncomputable def n23_9 : Code := kid n23_8 false
noncomputable def n23_10 : Code := kid n23_9 false
noncomputable def n23_11 : Code := kid n23_9 true
noncomputable def n23_12 : Code := kid n23_11 false
noncomputable def n23_13 : Code := kid n23_12 false
noncomputable def n23_14 : Code := kid n23_13 false
noncomputable def n23_15 : Code := kid n23_14 false
noncomputable def n23_16 : Code := kid n23_14 true
noncomputable def n23_17 : Code := kid n23_16 false
noncomputable def n23_18 : Code := kid n23_16 true
noncomputable def n23_19 : Code := kid n23_13 true
noncomputable def n23_20 : Code := kid n23_19 false
noncomputable def n23_21 : Code := kid n23_20 false
noncomputable def n23_22 : Code := kid n23_19 true
noncomputable def n23_23 : Code := kid n23_8 true
noncomputable def n23_24 : Code := kid n23_23 false
noncomputable def n23_25 : Code := kid n23_24 false
noncomputable def n23_26 : Code := kid n23_24 true
noncomputable def n23_27 : Code := kid n23_26 false
noncomputable def n23_28 : Code := kid n23_27 false
noncomputable def n23_29 : Code := kid n23_27 true
noncomputable def n23_30 : Code := kid n23_26 true
noncomputable def n23_31 : Code := kid n23_23 true
noncomputable def n23_32 : Code := kid n23_31 false
noncomputable def n23_33 : Code := kid n23_31 true
@[simp] theorem e23_0 (fr : Fr) (st : St) : runI cfg 23 n23_0 fr st = thenR cfg 23 n23_2 (runI cfg 23 n23_1 fr st) := run_seq (by kernel_rfl)
@[simp] theorem e23_1 (fr : Fr) (st : St) : runI cfg 23 n23_1 fr st = ob (lookF fr 0) fun x0 => (some (.normal, [(0, x0)], st) : Res) :=
  (runI_reg (c := n23_1) (id := 0) (ops := opsOf n23_1) (draw := false) (by kernel_rfl)).trans (by kernel_rfl)
@[simp] theorem e23_2 (fr : Fr) (st : St) : runI cfg 23 n23_2 fr st = thenR cfg 23 n23_4 (runI cfg 23 n23_3 fr st) := run_seq (by kernel_rfl)
@[simp] theorem e23_3 (fr : Fr) (st : St) : runI cfg 23 n23_3 fr st = ob (lookF fr 0) fun x0 => ob (fillS [(0, 1), (1, 1)] [nilS, ff] [(0, x0)]) fun c1 => gt ((T.cells (.agg c1)).all T.one = true) ((some (.normal, [(5, (.ptr st.H.length 0))], ⟨(st.H ++ [.cells (T.cells (.agg c1))]), st.E⟩) : Res)) :=
  (runI_reg (c := n23_3) (id := 1) (ops := opsOf n23_3) (draw := false) (by kernel_rfl)).trans (by kernel_rfl)
@[simp] theorem e23_4 (fr : Fr) (st : St) : runI cfg 23 n23_4 fr st = thenR cfg 23 n23_6 (runI cfg 23 n23_5 fr st) := run_seq (by kernel_rfl)
@[simp] theorem e23_5 (fr : Fr) (st : St) : runI cfg 23 n23_5 fr st = ob (lookF fr 5) fun x5 => ob (callI cfg 57 [x5, (.d (.int .i64 10000))] st) fun r1 => ob (callI cfg 56 [r1.1] r1.2) fun r2 => ob (exV 0 r2.1) fun x17 => ob (exV 1 r2.1) fun x18 => (some (.normal, [(5, x5), (6, x17), (7, x18)], r2.2) : Res) :=
  (runI_reg (c := n23_5) (id := 2) (ops := opsOf n23_5) (draw := false) (by kernel_rfl)).trans (by kernel_rfl)
@[simp] theorem e23_6 (fr : Fr) (st : St) : runI cfg 23 n23_6 fr st = thenR cfg 23 n23_8 (runI cfg 23 n23_7 fr st) := run_seq (by kernel_rfl)
@[simp] theorem e23_7 (fr : Fr) (st : St) : runI cfg 23 n23_7 fr st = ob (lookF fr 5) fun x5 => ob (lookF fr 6) fun x6 => ob (lookF fr 7) fun x7 => (some (.normal, [(5, x5), (6, x6), (7, x7), (8, nilS)], st) : Res) :=
  (runI_reg (c := n23_7) (id := 3) (ops := opsOf n23_7) (draw := false) (by kernel_rfl)).trans (by kernel_rfl)
@[simp] theorem e23_8 (fr : Fr) (st : St) : runI cfg 23 n23_8 fr st = thenR cfg 23 n23_23 (runI cfg 23 n23_9 fr st) := run_seq (by kernel_rfl)
@[simp] theorem e23_9 (fr : Fr) (st : St) : runI cfg 23 n23_9 fr st = thenR cfg 23 n23_11 (runI cfg 23 n23_10 fr st) := run_seq (by kernel_rfl)
@[simp] theorem e23_10 (fr : Fr) (st : St) : runI cfg 23 n23_10 fr st = ob (lookF fr 5) fun x5 => ob (lookF fr 6) fun x6 => ob (lookF fr 7) fun x7 => ob (lookF fr 8) fun x8 => ob (callI cfg 58 [x5, (.d (.int .i64 8))] st) fun r1 => (some (.normal, [(5, x5), (6, x6), (7, x7), (8, x8), (9, r1.1)], r1.2) : Res) :=
  (runI_reg (c := n23_10) (id := 4) (ops := opsOf n23_10) (draw := false) (by kernel_rfl)).trans (by kernel_rfl)
@[simp] theorem e23_11 (fr : Fr) (st : St) : runI cfg 23 n23_11 fr st = blockI 0 (runI cfg 23 n23_12 fr st) := run_block (by kernel_rfl)
theorem l23_12 (fr : Fr) (st : St) : runI cfg 23 n23_12 fr st = loopR cfg 23 n23_12 st.H.length (runI cfg 23 n23_13 fr st) := run_loop (by kernel_rfl)
@[simp] theorem e23_13 (fr : Fr) (st : St) : runI cfg 23 n23_13 fr st = thenR cfg 23 n23_19 (runI cfg 23 n23_14 fr st) := run_seq (by kernel_rfl)
@[simp] theorem e23_14 (fr : Fr) (st : St) : runI cfg 23 n23_14 fr st = thenR cfg 23 n23_16 (runI cfg 23 n23_15 fr st) := run_seq (by kernel_rfl)
@[simp] theorem e23_15 (fr : Fr) (st : St) : runI cfg 23 n23_15 fr st = ob (lookF fr 5) fun x5 => ob (lookF fr 6) fun x6 => ob (lookF fr 7) fun x7 => ob (lookF fr 8) fun x8 => ob (lookF fr 9) fun x9 => ob (binV cfg.P (opAt n23_15 1) .gtr 3 (.int .i64) x9 (.d (.int .i64 0))) fun x22 => (some (.normal, [(5, x5), (6, x6), (7, x7), (8, x8), (9, x9), (22, x22)], st) : Res) :=
  (runI_reg (c := n23_15) (id := 5) (ops := opsOf n23_15) (draw := false) (by kernel_rfl)).trans (by kernel_rfl)
@[simp] theorem e23_16 (fr : Fr) (st : St) : runI cfg 23 n23_16 fr st = ob (lookF fr 22) fun v => gC v none (runI cfg 23 n23_17 fr st) (runI cfg 23 n23_18 fr st) := run_cond (x := .tmp 22) (by kernel_rfl)
@[simp] theorem e23_17 (fr : Fr) (st : St) : runI cfg 23 n23_17 fr st = some (.normal, fr, st) := run_skip (by kernel_rfl)
@[simp] theorem e23_18 (fr : Fr) (st : St) : runI cfg 23 n23_18 fr st = some (.exit 0, fr, st) := run_exit (by kernel_rfl)
@[simp] theorem e23_19 (fr : Fr) (st : St) : runI cfg 23 n23_19 fr st = thenR cfg 23 n23_22 (runI cfg 23 n23_20 fr st) := run_seq (by kernel_rfl)
@[simp] theorem e23_20 (fr : Fr) (st : St) : runI cfg 23 n23_20 fr st = blockI 1 (runI cfg 23 n23_21 fr st) := run_block (by kernel_rfl)
@[simp] theorem e23_21 (fr : Fr) (st : St) : runI cfg 23 n23_21 fr st = ob (lookF fr 5) fun x5 => ob (lookF fr 6) fun x6 => ob (lookF fr 7) fun x7 => ob (lookF fr 8) fun x8 => ob (lookF fr 9) fun x9 => ob (callI cfg 57 [x5, (.d (.int .i64 256))] st) fun r2 => ob (fillA 1 (repeatL [nilS] 1) [(0, r2.1)]) fun c3 => ob (T.toDs c3) fun d3 => ob (appV 1 24 r2.2 x8 (.sl false 1 d3 .lit)) fun a4 => (some (.normal, [(5, x5), (6, x6), (7, x7), (8, a4.1), (9, x9)], ⟨r2.2.H, a4.2⟩) : Res) :=
  (runI_reg (c := n23_21) (id := 7) (ops := opsOf n23_21) (draw := false) (by kernel_rfl)).trans (by kernel_rfl)
@[simp] theorem e23_22 (fr : Fr) (st : St) : runI cfg 23 n23_22 fr st = ob (lookF fr 5) fun x5 => ob (lookF fr 6) fun x6 => ob (lookF fr 7) fun x7 => ob (lookF fr 8) fun x8 => ob (lookF fr 9) fun x9 => ob (binV cfg.P (opAt n23_22 1) .sub 3 (.int .i64) x9 (.d (.int .i64 1))) fun x24 => (some (.normal, [(5, x5), (6, x6), (7, x7), (8, x8), (9, x24)], st) : Res) :=
  (runI_reg (c := n23_22) (id := 6) (ops := opsOf n23_22) (draw := false) (by kernel_rfl)).trans (by kernel_rfl)
@[simp] theorem e23_23 (fr : Fr) (st : St) : runI cfg 23 n23_23 fr st = thenR cfg 23 n23_31 (runI cfg 23 n23_24 fr st) := run_seq (by kernel_rfl)
@[simp] theorem e23_24 (fr : Fr) (st : St) : runI cfg 23 n23_24 fr st = thenR cfg 23 n23_26 (runI cfg 23 n23_25 fr st) := run_seq (by kernel_rfl)
@[simp] theorem e23_25 (fr : Fr) (st : St) : runI cfg 23 n23_25 fr st = ob (lookF fr 5) fun x5 => ob (lookF fr 6) fun x6 => ob (lookF fr 7) fun x7 => ob (lookF fr 8) fun x8 => ob (notV cfg.P (opAt n23_25 1) .not x7) fun x31 => gC x31 (none) ((some (.normal, [(6, x6), (8, x8), (36, tt)], st) : Res)) (ob (callI cfg 59 [x5] st) fun r4 => ob (notV cfg.P (opAt n23_25 5) .not r4.1) fun x35 => (some (.normal, [(6, x6), (8, x8), (36, x35)], r4.2) : Res)) :=
  (runI_reg (c := n23_25) (id := 8) (ops := opsOf n23_25) (draw := false) (by kernel_rfl)).trans (by kernel_rfl)
@[simp] theorem e23_26 (fr : Fr) (st : St) : runI cfg 23 n23_26 fr st = ob (lookF fr 36) fun v => gC v none (runI cfg 23 n23_27 fr st) (runI cfg 23 n23_30 fr st) := run_cond (x := .tmp 36) (by kernel_rfl)
@[simp] theorem e23_27 (fr : Fr) (st : St) : runI cfg 23 n23_27 fr st = thenR cfg 23 n23_29 (runI cfg 23 n23_28 fr st) := run_seq (by kernel_rfl)
@[simp] theorem e23_28 (fr : Fr) (st : St) : runI cfg 23 n23_28 fr st = (some (.normal, [(2, nilS), (3, nilS), (4, ff)], st) : Res) :=
  (runI_reg (c := n23_28) (id := 9) (ops := opsOf n23_28) (draw := false) (by kernel_rfl)).trans (by kernel_rfl)
@[simp] theorem e23_29 (fr : Fr) (st : St) : runI cfg 23 n23_29 fr st = some (.ret, fr, st) := run_ret (by kernel_rfl)
@[simp] theorem e23_30 (fr : Fr) (st : St) : runI cfg 23 n23_30 fr st = some (.normal, fr, st) := run_skip (by kernel_rfl)
@[simp] theorem e23_31 (fr : Fr) (st : St) : runI cfg 23 n23_31 fr st = thenR cfg 23 n23_33 (runI cfg 23 n23_32 fr st) := run_seq (by kernel_rfl)
@[simp] theorem e23_32 (fr : Fr) (st : St) : runI cfg 23 n23_32 fr st = ob (lookF fr 6) fun x6 => ob (lookF fr 8) fun x8 => (some (.normal, [(2, x6), (3, x8), (4, tt)], st) : Res) :=
  (runI_reg (c := n23_32) (id := 10) (ops := opsOf n23_32) (draw := false) (by kernel_rfl)).trans (by kernel_rfl)
@[simp] theorem e23_33 (fr : Fr) (st : St) : runI cfg 23 n23_33 fr st = some (.ret, fr, st) := run_ret (by kernel_rfl)
@[simp] theorem z23 (fr : Fr) (st : St) : endR cfg Try.f23 (some (.ret, fr, st)) = ob (lookF fr 2) fun x0 => ob (lookF fr 3) fun x1 => ob (lookF fr 4) fun x2 => some (.tup [x0, x1, x2], st) := end_r.trans (by kernel_rfl)
@[simp] theorem w23 (fr : Fr) (st : St) : endR cfg Try.f23 (some (.normal, fr, st)) = ob (lookF fr 2) fun x0 => ob (lookF fr 3) fun x1 => ob (lookF fr 4) fun x2 => some (.tup [x0, x1, x2], st) := end_n.trans (by kernel_rfl)
theorem c23 (ts : List T) (st : St) : callI cfg 23 ts st = ob (closeAll ts) fun ts => backR st (endR cfg Try.f23 (runI cfg 23 n23_0 (enumF 0 ts) ⟨[], []⟩)) := call_pure (by kernel_rfl) (by kernel_rfl) (by kernel_rfl) (by kernel_rfl)
/-! 24: fettle.fettleref10.Value -/
noncomputable def n24_0 : Code := codeB Try.f24
noncomputable def n24_1 : Code := kid n24_0 false
noncomputable def n24_2 : Code := kid n24_0 true
noncomputable def n24_3 : Code := kid n24_2 false
noncomputable def n24_4 : Code := kid n24_2 true
noncomputable def n24_5 : Code := kid n24_4 false
noncomputable def n24_6 : Code := kid n24_5 false
noncomputable def n24_7 : Code := kid n24_5 true
noncomputable def n24_8 : Code := kid n24_7 false
noncomputable def n24_9 : Code := kid n24_8 false
noncomputable def n24_10 : Code := kid n24_8 true
noncomputable def n24_11 : Code := kid n24_7 true
noncomputable def n24_12 : Code := kid n24_4 true
noncomputable def n24_13 : Code := kid n24_12 false
noncomputable def n24_14 : Code := kid n24_12 true
@[simp] theorem e24_0 (fr : Fr) (st : St) : runI cfg 24 n24_0 fr st = thenR cfg 24 n24_2 (runI cfg 24 n24_1 fr st) := run_seq (by kernel_rfl)
@[simp] theorem e24_1 (fr : Fr) (st : St) : runI cfg 24 n24_1 fr st = ob (lookF fr 0) fun x0 => (some (.normal, [(0, x0)], st) : Res) :=
  (runI_reg (c := n24_1) (id := 0) (ops := opsOf n24_1) (draw := false) (by kernel_rfl)).trans (by kernel_rfl)
@[simp] theorem e24_2 (fr : Fr) (st : St) : runI cfg 24 n24_2 fr st = thenR cfg 24 n24_4 (runI cfg 24 n24_3 fr st) := run_seq (by kernel_rfl)
@[simp] theorem e24_3 (fr : Fr) (st : St) : runI cfg 24 n24_3 fr st = ob (lookF fr 0) fun x0 => ob (callI cfg 23 [x0] st) fun r1 => ob (exV 0 r1.1) fun x10 => ob (exV 1 r1.1) fun x11 => ob (exV 2 r1.1) fun x12 => (some (.normal, [(4, x10), (5, x11), (6, x12)], r1.2) : Res) :=
  (runI_reg (c := n24_3) (id := 1) (ops := opsOf n24_3) (draw := false) (by kernel_rfl)).trans (by kernel_rfl)
@[simp] theorem e24_4 (fr : Fr) (st : St) : runI cfg 24 n24_4 fr st = thenR cfg 24 n24_12 (runI cfg 24 n24_5 fr st) := run_seq (by kernel_rfl)
@[simp] theorem e24_5 (fr : Fr) (st : St) : runI cfg 24 n24_5 fr st = thenR cfg 24 n24_7 (runI cfg 24 n24_6 fr st) := run_seq (by kernel_rfl)
@[simp] theorem e24_6 (fr : Fr) (st : St) : runI cfg 24 n24_6 fr st = ob (lookF fr 4) fun x4 => ob (lookF fr 5) fun x5 => ob (lookF fr 6) fun x6 => ob (notV cfg.P (opAt n24_6 1) .not x6) fun x14 => (some (.normal, [(4, x4), (5, x5), (14, x14)], st) : Res) :=
  (runI_reg (c := n24_6) (id := 2) (ops := opsOf n24_6) (draw := false) (by kernel_rfl)).trans (by kernel_rfl)
@[simp] theorem e24_7 (fr : Fr) (st : St) : runI cfg 24 n24_7 fr st = ob (lookF fr 14) fun v => gC v none (runI cfg 24 n24_8 fr st) (runI cfg 24 n24_11 fr st) := run_cond (x := .tmp 14) (by kernel_rfl)
@[simp] theorem e24_8 (fr : Fr) (st : St) : runI cfg 24 n24_8 fr st = thenR cfg 24 n24_10 (runI cfg 24 n24_9 fr st) := run_seq (by kernel_rfl)
@[simp] theorem e24_9 (fr : Fr) (st : St) : runI cfg 24 n24_9 fr st = (some (.normal, [(2, nilS), (3, ff)], st) : Res) :=
  (runI_reg (c := n24_9) (id := 3) (ops := opsOf n24_9) (draw := false) (by kernel_rfl)).trans (by kernel_rfl)
@[simp] theorem e24_10 (fr : Fr) (st : St) : runI cfg 24 n24_10 fr st = some (.ret, fr, st) := run_ret (by kernel_rfl)
@[simp] theorem e24_11 (fr : Fr) (st : St) : runI cfg 24 n24_11 fr st = some (.normal, fr, st) := run_skip (by kernel_rfl)
@[simp] theorem e24_12 (fr : Fr) (st : St) : runI cfg 24 n24_12 fr st = thenR cfg 24 n24_14 (runI cfg 24 n24_13 fr st) := run_seq (by kernel_rfl)
@[simp] theorem e24_13 (fr : Fr) (st : St) : runI cfg 24 n24_13 fr st = ob (lookF fr 4) fun x4 => ob (lookF fr 5) fun x5 => ob (callI cfg 26 [x4, x5] st) fun r2 => ob (exV 0 r2.1) fun x18 => ob (exV 1 r2.1) fun x19 => (some (.normal, [(2, x18), (3, x19)], r2.2) : Res) :=
  (runI_reg (c := n24_13) (id := 4) (ops := opsOf n24_13) (draw := false) (by kernel_rfl)).trans (by kernel_rfl)
@[simp] theorem e24_14 (fr : Fr) (st : St) : runI cfg 24 n24_14 fr st = some (.ret, fr, st) := run_ret (by kernel_rfl)
@[simp] theorem z24 (fr : Fr) (st : St) : endR cfg Try.f24 (some (.ret, fr, st)) = ob (lookF fr 2) fun x0 => ob (lookF fr 3) fun x1 => some (.tup [x0, x1], st) := end_r.trans (by kernel_rfl)
@[simp] theorem w24 (fr : Fr) (st : St) : endR cfg Try.f24 (some (.normal, fr, st)) = ob (lookF fr 2) fun x0 => ob (lookF fr 3) fun x1 => some (.tup [x0, x1], st) := end_n.trans (by kernel_rfl)
theorem c24 (ts : List T) (st : St) : callI cfg 24 ts st = ob (closeAll ts) fun ts => backR st (endR cfg Try.f24 (runI cfg 24 n24_0 (enumF 0 ts) ⟨[], []⟩)) := call_pure (by kernel_rfl) (by kernel_rfl) (by kernel_rfl) (by kernel_rfl)
/-! 25: fettle.fettleref4.SameAct -/
noncomputable def n25_0 : Code := codeB Try.f25
noncomputable def n25_1 : Code := kid n25_0 false
noncomputable def n25_2 : Code := kid n25_0 true
noncomputable def n25_3 : Code := kid n25_2 false
noncomputable def n25_4 : Code := kid n25_3 false
noncomputable def n25_5 : Code := kid n25_3 true
noncomputable def n25_6 : Code := kid n25_5 false
noncomputable def n25_7 : Code := kid n25_6 false
noncomputable def n25_8 : Code := kid n25_6 true
noncomputable def n25_9 : Code := kid n25_5 true
noncomputable def n25_10 : Code := kid n25_2 true
noncomputable def n25_11 : Code := kid n25_10 false
noncomputable def n25_12 : Code := kid n25_11 false
noncomputable def n25_13 : Code := kid n25_11 true
noncomputable def n25_14 : Code := kid n25_13 false
noncomputable def n25_15 : Code := kid n25_14 false
noncomputable def n25_16 : Code := kid n25_15 false
noncomputable def n25_17 : Code := kid n25_16 false
noncomputable def n25_18 : Code := kid n25_16 true
noncomputable def n25_19 : Code := kid n25_18 false
noncomputable def n25_20 : Code := kid n25_18 true
noncomputable def n25_21 : Code := kid n25_15 true
noncomputable def n25_22 : Code := kid n25_21 false
noncomputable def n25_23 : Code := kid n25_22 false
noncomputable def n25_24 : Code := kid n25_23 false
noncomputable def n25_25 : Code := kid n25_23 true
noncomputable def n25_26 : Code := kid n25_25 false
noncomputable def n25_27 : Code := kid n25_26 false
noncomputable def n25_28 : Code := kid n25_26 true
noncomputable def n25_29 : Code := kid n25_25 true
noncomputable def n25_30 : Code := kid n25_21 true
noncomputable def n25_31 : Code := kid n25_10 true
noncomputable def n25_32 : Code := kid n25_31 false
noncomputable def n25_33 : Code := kid n25_31 true
@[simp] theorem e25_0 (fr : Fr) (st : St) : runI cfg 25 n25_0 fr st = thenR cfg 25 n25_2 (runI cfg 25 n25_1 fr st) := run_seq (by kernel_rfl)
@[simp] theorem e25_1 (fr : Fr) (st : St) : runI cfg 25 n25_1 fr st = ob (lookF fr 0) fun x0 => ob (lookF fr 1) fun x1 => (some (.normal, [(0, x0), (1, x1)], st) : Res) :=
  (runI_reg (c := n25_1) (id := 0) (ops := opsOf n25_1) (draw := false) (by kernel_rfl)).trans (by kernel_rfl)
@[simp] theorem e25_2 (fr : Fr) (st : St) : runI cfg 25 n25_2 fr st = thenR cfg 25 n25_10 (runI cfg 25 n25_3 fr st) := run_seq (by kernel_rfl)
@[simp] theorem e25_3 (fr : Fr) (st : St) : runI cfg 25 n25_3 fr st = thenR cfg 25 n25_5 (runI cfg 25 n25_4 fr st) := run_seq (by kernel_rfl)
@[simp] theorem e25_4 (fr : Fr) (st : St) : runI cfg 25 n25_4 fr st = ob (lookF fr 0) fun x0 => ob (lookF fr 1) fun x1 => ob (lenV (.slice 47) st.H x0) fun x7 => ob (lenV (.slice 47) st.H x1) fun x9 => ob (binV cfg.P (opAt n25_4 4) .neq 3 (.int .i64) x7 x9) fun x10 => (some (.normal, [(0, x0), (1, x1), (10, x10)], st) : Res) :=
  (runI_reg (c := n25_4) (id := 1) (ops := opsOf n25_4) (draw := false) (by kernel_rfl)).trans (by kernel_rfl)
@[simp] theorem e25_5 (fr : Fr) (st : St) : runI cfg 25 n25_5 fr st = ob (lookF fr 10) fun v => gC v none (runI cfg 25 n25_6 fr st) (runI cfg 25 n25_9 fr st) := run_cond (x := .tmp 10) (by kernel_rfl)
@[simp] theorem e25_6 (fr : Fr) (st : St) : runI cfg 25 n25_6 fr st = thenR cfg 25 n25_8 (runI cfg 25 n25_7 fr st) := run_seq (by kernel_rfl)
@[simp] theorem e25_7 (fr : Fr) (st : St) : runI cfg 25 n25_7 fr st = (some (.normal, [(4, ff)], st) : Res) :=
  (runI_reg (c := n25_7) (id := 2) (ops := opsOf n25_7) (draw := false) (by kernel_rfl)).trans (by kernel_rfl)
@[simp] theorem e25_8 (fr : Fr) (st : St) : runI cfg 25 n25_8 fr st = some (.ret, fr, st) := run_ret (by kernel_rfl)
@[simp] theorem e25_9 (fr : Fr) (st : St) : runI cfg 25 n25_9 fr st = some (.normal, fr, st) := run_skip (by kernel_rfl)
@[simp] theorem e25_10 (fr : Fr) (st : St) : runI cfg 25 n25_10 fr st = thenR cfg 25 n25_31 (runI cfg 25 n25_11 fr st) := run_seq (by kernel_rfl)
@[simp] theorem e25_11 (fr : Fr) (st : St) : runI cfg 25 n25_11 fr st = thenR cfg 25 n25_13 (runI cfg 25 n25_12 fr st) := run_seq (by kernel_rfl)
@[simp] theorem e25_12 (fr : Fr) (st : St) : runI cfg 25 n25_12 fr st = ob (lookF fr 0) fun x0 => ob (lookF fr 1) fun x1 => (some (.normal, [(0, x0), (1, x1), (5, (.d (.int .i64 0)))], st) : Res) :=
  (runI_reg (c := n25_12) (id := 3) (ops := opsOf n25_12) (draw := false) (by kernel_rfl)).trans (by kernel_rfl)
@[simp] theorem e25_13 (fr : Fr) (st : St) : runI cfg 25 n25_13 fr st = blockI 0 (runI cfg 25 n25_14 fr st) := run_block (by kernel_rfl)
theorem l25_14 (fr : Fr) (st : St) : runI cfg 25 n25_14 fr st = loopR cfg 25 n25_14 st.H.length (runI cfg 25 n25_15 fr st) := run_loop (by kernel_rfl)
@[simp] theorem e25_15 (fr : Fr) (st : St) : runI cfg 25 n25_15 fr st = thenR cfg 25 n25_21 (runI cfg 25 n25_16 fr st) := run_seq (by kernel_rfl)
@[simp] theorem e25_16 (fr : Fr) (st : St) : runI cfg 25 n25_16 fr st = thenR cfg 25 n25_18 (runI cfg 25 n25_17 fr st) := run_seq (by kernel_rfl)
@[simp] theorem e25_17 (fr : Fr) (st : St) : runI cfg 25 n25_17 fr st = ob (lookF fr 0) fun x0 => ob (lookF fr 1) fun x1 => ob (lookF fr 5) fun x5 => ob (lenV (.slice 47) st.H x0) fun x13 => ob (binV cfg.P (opAt n25_17 3) .lss 3 (.int .i64) x5 x13) fun x14 => (some (.normal, [(0, x0), (1, x1), (5, x5), (14, x14)], st) : Res) :=
  (runI_reg (c := n25_17) (id := 4) (ops := opsOf n25_17) (draw := false) (by kernel_rfl)).trans (by kernel_rfl)
@[simp] theorem e25_18 (fr : Fr) (st : St) : runI cfg 25 n25_18 fr st = ob (lookF fr 14) fun v => gC v none (runI cfg 25 n25_19 fr st) (runI cfg 25 n25_20 fr st) := run_cond (x := .tmp 14) (by kernel_rfl)
@[simp] theorem e25_19 (fr : Fr) (st : St) : runI cfg 25 n25_19 fr st = some (.normal, fr, st) := run_skip (by kernel_rfl)
@[simp] theorem e25_20 (fr : Fr) (st : St) : runI cfg 25 n25_20 fr st = some (.exit 0, fr, st) := run_exit (by kernel_rfl)
@[simp] theorem e25_21 (fr : Fr) (st : St) : runI cfg 25 n25_21 fr st = thenR cfg 25 n25_30 (runI cfg 25 n25_22 fr st) := run_seq (by kernel_rfl)
@[simp] theorem e25_22 (fr : Fr) (st : St) : runI cfg 25 n25_22 fr st = blockI 1 (runI cfg 25 n25_23 fr st) := run_block (by kernel_rfl)
@[simp] theorem e25_23 (fr : Fr) (st : St) : runI cfg 25 n25_23 fr st = thenR cfg 25 n25_25 (runI cfg 25 n25_24 fr st) := run_seq (by kernel_rfl)
@[simp] theorem e25_24 (fr : Fr) (st : St) : runI cfg 25 n25_24 fr st = ob (lookF fr 0) fun x0 => ob (lookF fr 1) fun x1 => ob (lookF fr 5) fun x5 => ob (ixV 3 x0 x5) fun x19 => ob (loadV 3 true st.H x19) fun x20 => ob (ixV 3 x1 x5) fun x23 => ob (loadV 3 true st.H x23) fun x24 => ob (binV cfg.P (opAt n25_24 8) .neq 47 (tyG cfg 47) x20 x24) fun x25 => (some (.normal, [(0, x0), (1, x1), (5, x5), (25, x25)], st) : Res) :=
  (runI_reg (c := n25_24) (id := 6) (ops := opsOf n25_24) (draw := true) (by kernel_rfl)).trans (by kernel_rfl)
@[simp] theorem e25_25 (fr : Fr) (st : St) : runI cfg 25 n25_25 fr st = ob (lookF fr 25) fun v => gC v none (runI cfg 25 n25_26 fr st) (runI cfg 25 n25_29 fr st) := run_cond (x := .tmp 25) (by kernel_rfl)
@[simp] theorem e25_26 (fr : Fr) (st : St) : runI cfg 25 n25_26 fr st = thenR cfg 25 n25_28 (runI cfg 25 n25_27 fr st) := run_seq (by kernel_rfl)
@[simp] theorem e25_27 (fr : Fr) (st : St) : runI cfg 25 n25_27 fr st = (some (.normal, [(4, ff)], st) : Res) :=
  (runI_reg (c := n25_27) (id := 7) (ops := opsOf n25_27) (draw := false) (by kernel_rfl)).trans (by kernel_rfl)
@[simp] theorem e25_28 (fr : Fr) (st : St) : runI cfg 25 n25_28 fr st = some (.ret, fr, st) := run_ret (by kernel_rfl)
@[simp] theorem e25_29 (fr : Fr) (st : St) : runI cfg 25 n25_29 fr st = some (.normal, fr, st) := run_skip (by kernel_rfl)
@[simp] theorem e25_30 (fr : Fr) (st : St) : runI cfg 25 n25_30 fr st = ob (lookF fr 0) fun x0 => ob (lookF fr 1) fun x1 => ob (lookF fr 5) fun x5 => ob (binV cfg.P (opAt n25_30 1) .add 3 (.int .i64) x5 (.d (.int .i64 1))) fun x16 => (some (.normal, [(0, x0), (1, x1), (5, x16)], st) : Res) :=
  (runI_reg (c := n25_30) (id := 5) (ops := opsOf n25_30) (draw := false) (by kernel_rfl)).trans (by kernel_rfl)
@[simp] theorem e25_31 (fr : Fr) (st : St) : runI cfg 25 n25_31 fr st = thenR cfg 25 n25_33 (runI cfg 25 n25_32 fr st) := run_seq (by kernel_rfl)
@[simp] theorem e25_32 (fr : Fr) (st : St) : runI cfg 25 n25_32 fr st = (some (.normal, [(4, tt)], st) : Res) :=
  (runI_reg (c := n25_32) (id := 8) (ops := opsOf n25_32) (draw := false) (by kernel_rfl)).trans (by kernel_rfl)
@[simp] theorem e25_33 (fr : Fr) (st : St) : runI cfg 25 n25_33 fr st = some (.ret, fr, st) := run_ret (by kernel_rfl)
@[simp] theorem z25 (fr : Fr) (st : St) : endR cfg Try.f25 (some (.ret, fr, st)) = ob (lookF fr 4) fun x0 => some (x0, st) := end_r.trans (by kernel_rfl)
@[simp] theorem w25 (fr : Fr) (st : St) : endR cfg Try.f25 (some (.normal, fr, st)) = ob (lookF fr 4) fun x0 => some (x0, st) := end_n.trans (by kernel_rfl)
theorem c25 (ts : List T) (st : St) : callI cfg 25 ts st = ob (closeAll ts) fun ts => backR st (endR cfg Try.f25 (runI cfg 25 n25_0 (enumF 0 ts) ⟨[], []⟩)) := call_pure (by kernel_rfl) (by kernel_rfl) (by kernel_rfl) (by kernel_rfl)
/-! 26: fettle.fettleref4.Run -/
noncomputable def n26_0 : Code := codeB Try.f26
noncomputable def n26_1 : Code := kid n26_0 false
noncomputable def n26_2 : Code := kid n26_0 true
noncomputable def n26_3 : Code := kid n26_2 false
noncomputable def n26_4 : Code := kid n26_3 false
noncomputable def n26_5 : Code := kid n26_3 true
noncomputable def n26_6 : Code := kid n26_5 false
noncomputable def n26_7 : Code := kid n26_6 false
noncomputable def n26_8 : Code := kid n26_6 true
noncomputable def n26_9 : Code := kid n26_5 true
noncomputable def n26_10 : Code := kid n26_2 true
noncomputable def n26_11 : Code := kid n26_10 false
noncomputable def n26_12 : Code := kid n26_10 true
noncomputable def n26_13 : Code := kid n26_12 false
noncomputable def n26_14 : Code := kid n26_13 false
noncomputable def n26_15 : Code := kid n26_13 true
noncomputable def n26_16 : Code := kid n26_15 false
noncomputable def n26_17 : Code := kid n26_16 false
noncomputable def n26_18 : Code := kid n26_17 false
noncomputable def n26_19 : Code := kid n26_18 false
noncomputable def n26_20 : Code := kid n26_18 true
noncomputable def n26_21 : Code := kid n26_20 false
noncomputable def n26_22 : Code := kid n26_20 true
noncomputable def n26_23 : Code := kid n26_17 true
noncomputable def n26_24 : Code := kid n26_23 false
noncomputable def n26_25 : Code := kid n26_24 false
noncomputable def n26_26 : Code := kid n26_25 false
noncomputable def n26_27 : Code := kid n26_25 true
noncomputable def n26_28 : Code := kid n26_27 false
noncomputable def n26_29 : Code := kid n26_28 false
noncomputable def n26_30 : Code := kid n26_28 true
noncomputable def n26_31 : Code := kid n26_30 false
noncomputable def n26_32 : Code := kid n26_31 false
noncomputable def n26_33 : Code := kid n26_31 true
noncomputable def n26_34 : Code := kid n26_30 true
noncomputable def n26_35 : Code := kid n26_27 true
noncomputable def n26_36 : Code := kid n26_23 true
noncomputable def n26_37 : Code := kid n26_12 true
noncomputable def n26_38 : Code := kid n26_37 false
noncomputable def n26_39 : Code := kid n26_37 true
@[simp] theorem e26_0 (fr : Fr) (st : St) : runI cfg 26 n26_0 fr st = thenR cfg 26 n26_2 (runI cfg 26 n26_1 fr st) := run_seq (by kernel_rfl)
@[simp] theorem e26_1 (fr : Fr) (st : St) : runI cfg 26 n26_1 fr st = ob (lookF fr 0) fun x0 => ob (lookF fr 1) fun x1 => (some (.normal, [(0, x0), (1, x1)], st) : Res) :=
  (runI_reg (c := n26_1) (id := 0) (ops := opsOf n26_1) (draw := false) (by kernel_rfl)).trans (by kernel_rfl)
@[simp] theorem e26_2 (fr : Fr) (st : St) : runI cfg 26 n26_2 fr st = thenR cfg 26 n26_10 (runI cfg 26 n26_3 fr st) := run_seq (by kernel_rfl)
@[simp] theorem e26_3 (fr : Fr) (st : St) : runI cfg 26 n26_3 fr st = thenR cfg 26 n26_5 (runI cfg 26 n26_4 fr st) := run_seq (by kernel_rfl)
@[simp] theorem e26_4 (fr : Fr) (st : St) : runI cfg 26 n26_4 fr st = ob (lookF fr 0) fun x0 => ob (lookF fr 1) fun x1 => ob (callI cfg 60 [x0] st) fun r1 => ob (notV cfg.P (opAt n26_4 2) .not r1.1) fun x12 => (some (.normal, [(0, x0), (1, x1), (12, x12)], r1.2) : Res) :=
  (runI_reg (c := n26_4) (id := 1) (ops := opsOf n26_4) (draw := false) (by kernel_rfl)).trans (by kernel_rfl)
@[simp] theorem e26_5 (fr : Fr) (st : St) : runI cfg 26 n26_5 fr st = ob (lookF fr 12) fun v => gC v none (runI cfg 26 n26_6 fr st) (runI cfg 26 n26_9 fr st) := run_cond (x := .tmp 12) (by kernel_rfl)
@[simp] theorem e26_6 (fr : Fr) (st : St) : runI cfg 26 n26_6 fr st = thenR cfg 26 n26_8 (runI cfg 26 n26_7 fr st) := run_seq (by kernel_rfl)
@[simp] theorem e26_7 (fr : Fr) (st : St) : runI cfg 26 n26_7 fr st = (some (.normal, [(4, nilS), (5, ff)], st) : Res) :=
  (runI_reg (c := n26_7) (id := 2) (ops := opsOf n26_7) (draw := false) (by kernel_rfl)).trans (by kernel_rfl)
@[simp] theorem e26_8 (fr : Fr) (st : St) : runI cfg 26 n26_8 fr st = some (.ret, fr, st) := run_ret (by kernel_rfl)
@[simp] theorem e26_9 (fr : Fr) (st : St) : runI cfg 26 n26_9 fr st = some (.normal, fr, st) := run_skip (by kernel_rfl)
@[simp] theorem e26_10 (fr : Fr) (st : St) : runI cfg 26 n26_10 fr st = thenR cfg 26 n26_12 (runI cfg 26 n26_11 fr st) := run_seq (by kernel_rfl)
@[simp] theorem e26_11 (fr : Fr) (st : St) : runI cfg 26 n26_11 fr st = ob (lookF fr 0) fun x0 => ob (lookF fr 1) fun x1 => (some (.normal, [(0, x0), (1, x1), (6, nilS)], st) : Res) :=
  (runI_reg (c := n26_11) (id := 3) (ops := opsOf n26_11) (draw := false) (by kernel_rfl)).trans (by kernel_rfl)
@[simp] theorem e26_12 (fr : Fr) (st : St) : runI cfg 26 n26_12 fr st = thenR cfg 26 n26_37 (runI cfg 26 n26_13 fr st) := run_seq (by kernel_rfl)
@[simp] theorem e26_13 (fr : Fr) (st : St) : runI cfg 26 n26_13 fr st = thenR cfg 26 n26_15 (runI cfg 26 n26_14 fr st) := run_seq (by kernel_rfl)
@[simp] theorem e26_14 (fr : Fr) (st : St) : runI cfg 26 n26_14 fr st = ob (lookF fr 0) fun x0 => ob (lookF fr 1) fun x1 => ob (lookF fr 6) fun x6 => (some (.normal, [(0, x0), (1, x1), (6, x6), (7, (.d (.int .i64 0)))], st) : Res) :=
  (runI_reg (c := n26_14) (id := 4) (ops := opsOf n26_14) (draw := false) (by kernel_rfl)).trans (by kernel_rfl)
@[simp] theorem e26_15 (fr : Fr) (st : St) : runI cfg 26 n26_15 fr st = blockI 0 (runI cfg 26 n26_16 fr st) := run_block (by kernel_rfl)
theorem l26_16 (fr : Fr) (st : St) : runI cfg 26 n26_16 fr st = loopR cfg 26 n26_16 st.H.length (runI cfg 26 n26_17 fr st) := run_loop (by kernel_rfl)
@[simp] theorem e26_17 (fr : Fr) (st : St) : runI cfg 26 n26_17 fr st = thenR cfg 26 n26_23 (runI cfg 26 n26_18 fr st) := run_seq (by kernel_rfl)
@[simp] theorem e26_18 (fr : Fr) (st : St) : runI cfg 26 n26_18 fr st = thenR cfg 26 n26_20 (runI cfg 26 n26_19 fr st) := run_seq (by kernel_rfl)
@[simp] theorem e26_19 (fr : Fr) (st : St) : runI cfg 26 n26_19 fr st = ob (lookF fr 0) fun x0 => ob (lookF fr 1) fun x1 => ob (lookF fr 6) fun x6 => ob (lookF fr 7) fun x7 => ob (lenV (.slice 47) st.H x0) fun x15 => ob (binV cfg.P (opAt n26_19 3) .lss 3 (.int .i64) x7 x15) fun x16 => (some (.normal, [(0, x0), (1, x1), (6, x6), (7, x7), (16, x16)], st) : Res) :=
  (runI_reg (c := n26_19) (id := 5) (ops := opsOf n26_19) (draw := false) (by kernel_rfl)).trans (by kernel_rfl)
@[simp] theorem e26_20 (fr : Fr) (st : St) : runI cfg 26 n26_20 fr st = ob (lookF fr 16) fun v => gC v none (runI cfg 26 n26_21 fr st) (runI cfg 26 n26_22 fr st) := run_cond (x := .tmp 16) (by kernel_rfl)
@[simp] theorem e26_21 (fr : Fr) (st : St) : runI cfg 26 n26_21 fr st = some (.normal, fr, st) := run_skip (by kernel_rfl)
@[simp] theorem e26_22 (fr : Fr) (st : St) : runI cfg 26 n26_22 fr st = some (.exit 0, fr, st) := run_exit (by kernel_rfl)
@[simp] theorem e26_23 (fr : Fr) (st : St) : runI cfg 26 n26_23 fr st = thenR cfg 26 n26_36 (runI cfg 26 n26_24 fr st) := run_seq (by kernel_rfl)
@[simp] theorem e26_24 (fr : Fr) (st : St) : runI cfg 26 n26_24 fr st = blockI 1 (runI cfg 26 n26_25 fr st) := run_block (by kernel_rfl)
@[simp] theorem e26_25 (fr : Fr) (st : St) : runI cfg 26 n26_25 fr st = thenR cfg 26 n26_27 (runI cfg 26 n26_26 fr st) := run_seq (by kernel_rfl)
@[simp] theorem e26_26 (fr : Fr) (st : St) : runI cfg 26 n26_26 fr st = ob (lookF fr 0) fun x0 => ob (lookF fr 1) fun x1 => ob (lookF fr 6) fun x6 => ob (lookF fr 7) fun x7 => ob (ixV 3 x0 x7) fun x22 => ob (loadV 3 true st.H x22) fun x23 => ob (callI cfg 61 [x23, x6, x1] st) fun r6 => ob (exV 0 r6.1) fun x27 => ob (exV 1 r6.1) fun x28 => (some (.normal, [(0, x0), (1, x1), (7, x7), (8, x27), (9, x28)], r6.2) : Res) :=
  (runI_reg (c := n26_26) (id := 7) (ops := opsOf n26_26) (draw := false) (by kernel_rfl)).trans (by kernel_rfl)
@[simp] theorem e26_27 (fr : Fr) (st : St) : runI cfg 26 n26_27 fr st = thenR cfg 26 n26_35 (runI cfg 26 n26_28 fr st) := run_seq (by kernel_rfl)
@[simp] theorem e26_28 (fr : Fr) (st : St) : runI cfg 26 n26_28 fr st = thenR cfg 26 n26_30 (runI cfg 26 n26_29 fr st) := run_seq (by kernel_rfl)
@[simp] theorem e26_29 (fr : Fr) (st : St) : runI cfg 26 n26_29 fr st = ob (lookF fr 0) fun x0 => ob (lookF fr 1) fun x1 => ob (lookF fr 7) fun x7 => ob (lookF fr 8) fun x8 => ob (lookF fr 9) fun x9 => ob (notV cfg.P (opAt n26_29 1) .not x9) fun x30 => gC x30 (none) ((some (.normal, [(0, x0), (1, x1), (7, x7), (8, x8), (35, tt)], st) : Res)) (ob (lenV (.slice 5) st.H x8) fun x33 => ob (binV cfg.P (opAt n26_29 5) .gtr 3 (.int .i64) x33 (.d (.int .i64 256))) fun x34 => (some (.normal, [(0, x0), (1, x1), (7, x7), (8, x8), (35, x34)], st) : Res)) :=
  (runI_reg (c := n26_29) (id := 8) (ops := opsOf n26_29) (draw := false) (by kernel_rfl)).trans (by kernel_rfl)
@[simp] theorem e26_30 (fr : Fr) (st : St) : runI cfg 26 n26_30 fr st = ob (lookF fr 35) fun v => gC v none (runI cfg 26 n26_31 fr st) (runI cfg 26 n26_34 fr st) := run_cond (x := .tmp 35) (by kernel_rfl)
@[simp] theorem e26_31 (fr : Fr) (st : St) : runI cfg 26 n26_31 fr st = thenR cfg 26 n26_33 (runI cfg 26 n26_32 fr st) := run_seq (by kernel_rfl)
@[simp] theorem e26_32 (fr : Fr) (st : St) : runI cfg 26 n26_32 fr st = (some (.normal, [(4, nilS), (5, ff)], st) : Res) :=
  (runI_reg (c := n26_32) (id := 9) (ops := opsOf n26_32) (draw := false) (by kernel_rfl)).trans (by kernel_rfl)
@[simp] theorem e26_33 (fr : Fr) (st : St) : runI cfg 26 n26_33 fr st = some (.ret, fr, st) := run_ret (by kernel_rfl)
@[simp] theorem e26_34 (fr : Fr) (st : St) : runI cfg 26 n26_34 fr st = some (.normal, fr, st) := run_skip (by kernel_rfl)
@[simp] theorem e26_35 (fr : Fr) (st : St) : runI cfg 26 n26_35 fr st = ob (lookF fr 0) fun x0 => ob (lookF fr 1) fun x1 => ob (lookF fr 7) fun x7 => ob (lookF fr 8) fun x8 => (some (.normal, [(0, x0), (1, x1), (6, x8), (7, x7)], st) : Res) :=
  (runI_reg (c := n26_35) (id := 10) (ops := opsOf n26_35) (draw := false) (by kernel_rfl)).trans (by kernel_rfl)
@[simp] theorem e26_36 (fr : Fr) (st : St) : runI cfg 26 n26_36 fr st = ob (lookF fr 0) fun x0 => ob (lookF fr 1) fun x1 => ob (lookF fr 6) fun x6 => ob (lookF fr 7) fun x7 => ob (binV cfg.P (opAt n26_36 1) .add 3 (.int .i64) x7 (.d (.int .i64 1))) fun x18 => (some (.normal, [(0, x0), (1, x1), (6, x6), (7, x18)], st) : Res) :=
  (runI_reg (c := n26_36) (id := 6) (ops := opsOf n26_36) (draw := false) (by kernel_rfl)).trans (by kernel_rfl)
@[simp] theorem e26_37 (fr : Fr) (st : St) : runI cfg 26 n26_37 fr st = thenR cfg 26 n26_39 (runI cfg 26 n26_38 fr st) := run_seq (by kernel_rfl)
@[simp] theorem e26_38 (fr : Fr) (st : St) : runI cfg 26 n26_38 fr st = ob (lookF fr 6) fun x6 => (some (.normal, [(4, x6), (5, tt)], st) : Res) :=
  (runI_reg (c := n26_38) (id := 11) (ops := opsOf n26_38) (draw := false) (by kernel_rfl)).trans (by kernel_rfl)
@[simp] theorem e26_39 (fr : Fr) (st : St) : runI cfg 26 n26_39 fr st = some (.ret, fr, st) := run_ret (by kernel_rfl)
@[simp] theorem z26 (fr : Fr) (st : St) : endR cfg Try.f26 (some (.ret, fr, st)) = ob (lookF fr 4) fun x0 => ob (lookF fr 5) fun x1 => some (.tup [x0, x1], st) := end_r.trans (by kernel_rfl)
@[simp] theorem w26 (fr : Fr) (st : St) : endR cfg Try.f26 (some (.normal, fr, st)) = ob (lookF fr 4) fun x0 => ob (lookF fr 5) fun x1 => some (.tup [x0, x1], st) := end_n.trans (by kernel_rfl)
theorem c26 (ts : List T) (st : St) : callI cfg 26 ts st = ob (closeAll ts) fun ts => backR st (endR cfg Try.f26 (runI cfg 26 n26_0 (enumF 0 ts) ⟨[], []⟩)) := call_pure (by kernel_rfl) (by kernel_rfl) (by kernel_rfl) (by kernel_rfl)
end Go.Proofs.CfgA
end
