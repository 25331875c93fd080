/- The code of the functions, node by node (written by a program of mine). No conditions. -/
import Derived.Test.YtgegmkkbplhnhaaCodeA
import Derived.Test.YtgegmkkbplhnhaaCodeB
import Derived.Test.YtgegmkkbplhnhaaCodeC
import Derived.Test.YtgegmkkbplhnhaaTreeB
section
set_option linter.unusedVariables false
set_option maxRecDepth 100000
namespace Go.Proofs.CfgA
open Go Go.Tm Go.Proofs

/-! 4: fettle.fettlelaw10.PrntLong -/
noncomputable def n4_0 : Code := codeB Try.f4
noncomputable def n4_1 : Code := kid n4_0 false
noncomputable def n4_2 : Code := kid n4_0 true
noncomputable def n4_3 : Code := kid n4_2 false
noncomputable def n4_4 : Code := kid n4_2 true
noncomputable def n4_5 : Code := kid n4_4 false
noncomputable def n4_6 : Code := kid n4_4 true
noncomputable def n4_7 : Code := kid n4_6 false
noncomputable def n4_8 : Code := kid n4_7 false
noncomputable def n4_9 : Code := kid n4_7 true
noncomputable def n4_10 : Code := kid n4_9 false
noncomputable def n4_11 : Code := kid n4_10 false
noncomputable def n4_12 : Code := kid n4_11 false
noncomputable def n4_13 : Code := kid n4_12 false
noncomputable def n4_14 : Code := kid n4_12 true
noncomputable def n4_15 : Code := kid n4_14 false
noncomputable def n4_16 : Code := kid n4_14 true
noncomputable def n4_17 : Code := kid n4_11 true
noncomputable def n4_18 : Code := kid n4_17 false
noncomputable def n4_19 : Code := kid n4_18 false
noncomputable def n4_20 : Code := kid n4_17 true
noncomputable def n4_21 : Code := kid n4_6 true
noncomputable def n4_22 : Code := kid n4_21 false
noncomputable def n4_23 : Code := kid n4_21 true
noncomputable def n4_24 : Code := kid n4_23 false
noncomputable def n4_25 : Code := kid n4_23 true
noncomputable def n4_26 : Code := kid n4_25 false
noncomputable def n4_27 : Code := kid n4_25 true
noncomputable def n4_28 : Code := kid n4_27 false
noncomputable def n4_29 : Code := kid n4_27 true
noncomputable def n4_30 : Code := kid n4_29 false
noncomputable def n4_31 : Code := kid n4_29 true
noncomputable def n4_32 : Code := kid n4_31 false
noncomputable def n4_33 : Code := kid n4_31 true
@[simp] theorem e4_0 (fr : Fr) (st : St) : runI cfg 4 n4_0 fr st = thenR cfg 4 n4_2 (runI cfg 4 n4_1 fr st) := run_seq (by kernel_rfl)
@[simp] theorem e4_1 (fr : Fr) (st : St) : runI cfg 4 n4_1 fr st = ob (lookF fr 0) fun x0 => ob (lookF fr 1) fun x1 => (some (.normal, [(0, x0), (1, x1)], st) : Res) :=
  (runI_reg (c := n4_1) (id := 0) (ops := opsOf n4_1) (draw := false) (by kernel_rfl)).trans (by kernel_rfl)
@[simp] theorem e4_2 (fr : Fr) (st : St) : runI cfg 4 n4_2 fr st = thenR cfg 4 n4_4 (runI cfg 4 n4_3 fr st) := run_seq (by kernel_rfl)
@[simp] theorem e4_3 (fr : Fr) (st : St) : runI cfg 4 n4_3 fr st = ob (lookF fr 0) fun x0 => ob (lookF fr 1) fun x1 => ob (binV cfg.P (opAt n4_3 1) .and 3 (.int .i64) x0 (.d (.int .i64 255))) fun x15 => ob (binV cfg.P (opAt n4_3 2) .rem 3 (.int .i64) x15 (.d (.int .i64 9))) fun x16 => ob (binV cfg.P (opAt n4_3 4) .and 3 (.int .i64) x1 (.d (.int .i64 15))) fun x18 => ob (binV cfg.P (opAt n4_3 5) .add 3 (.int .i64) (.d (.int .i64 250)) x18) fun x19 => (some (.normal, [(0, x16), (1, x19)], st) : Res) :=
  (runI_reg (c := n4_3) (id := 1) (ops := opsOf n4_3) (draw := false) (by kernel_rfl)).trans (by kernel_rfl)
@[simp] theorem e4_4 (fr : Fr) (st : St) : runI cfg 4 n4_4 fr st = thenR cfg 4 n4_6 (runI cfg 4 n4_5 fr st) := run_seq (by kernel_rfl)
@[simp] theorem e4_5 (fr : Fr) (st : St) : runI cfg 4 n4_5 fr st = ob (lookF fr 0) fun x0 => ob (lookF fr 1) fun x1 => (some (.normal, [(0, x0), (1, x1), (5, nilS)], st) : Res) :=
  (runI_reg (c := n4_5) (id := 2) (ops := opsOf n4_5) (draw := false) (by kernel_rfl)).trans (by kernel_rfl)
@[simp] theorem e4_6 (fr : Fr) (st : St) : runI cfg 4 n4_6 fr st = thenR cfg 4 n4_21 (runI cfg 4 n4_7 fr st) := run_seq (by kernel_rfl)
@[simp] theorem e4_7 (fr : Fr) (st : St) : runI cfg 4 n4_7 fr st = thenR cfg 4 n4_9 (runI cfg 4 n4_8 fr st) := run_seq (by kernel_rfl)
@[simp] theorem e4_8 (fr : Fr) (st : St) : runI cfg 4 n4_8 fr st = ob (lookF fr 0) fun x0 => ob (lookF fr 1) fun x1 => ob (lookF fr 5) fun x5 => (some (.normal, [(0, x0), (1, x1), (5, x5), (6, (.d (.int .i64 0)))], st) : Res) :=
  (runI_reg (c := n4_8) (id := 3) (ops := opsOf n4_8) (draw := false) (by kernel_rfl)).trans (by kernel_rfl)
@[simp] theorem e4_9 (fr : Fr) (st : St) : runI cfg 4 n4_9 fr st = blockI 0 (runI cfg 4 n4_10 fr st) := run_block (by kernel_rfl)
theorem l4_10 (fr : Fr) (st : St) : runI cfg 4 n4_10 fr st = loopR cfg 4 n4_10 st.H.length (runI cfg 4 n4_11 fr st) := run_loop (by kernel_rfl)
@[simp] theorem e4_11 (fr : Fr) (st : St) : runI cfg 4 n4_11 fr st = thenR cfg 4 n4_17 (runI cfg 4 n4_12 fr st) := run_seq (by kernel_rfl)
@[simp] theorem e4_12 (fr : Fr) (st : St) : runI cfg 4 n4_12 fr st = thenR cfg 4 n4_14 (runI cfg 4 n4_13 fr st) := run_seq (by kernel_rfl)
@[simp] theorem e4_13 (fr : Fr) (st : St) : runI cfg 4 n4_13 fr st = ob (lookF fr 0) fun x0 => ob (lookF fr 1) fun x1 => ob (lookF fr 5) fun x5 => ob (lookF fr 6) fun x6 => ob (binV cfg.P (opAt n4_13 2) .lss 3 (.int .i64) x6 x0) fun x22 => (some (.normal, [(0, x0), (1, x1), (5, x5), (6, x6), (22, x22)], st) : Res) :=
  (runI_reg (c := n4_13) (id := 4) (ops := opsOf n4_13) (draw := false) (by kernel_rfl)).trans (by kernel_rfl)
@[simp] theorem e4_14 (fr : Fr) (st : St) : runI cfg 4 n4_14 fr st = ob (lookF fr 22) fun v => gC v none (runI cfg 4 n4_15 fr st) (runI cfg 4 n4_16 fr st) := run_cond (x := .tmp 22) (by kernel_rfl)
@[simp] theorem e4_15 (fr : Fr) (st : St) : runI cfg 4 n4_15 fr st = some (.normal, fr, st) := run_skip (by kernel_rfl)
@[simp] theorem e4_16 (fr : Fr) (st : St) : runI cfg 4 n4_16 fr st = some (.exit 0, fr, st) := run_exit (by kernel_rfl)
@[simp] theorem e4_17 (fr : Fr) (st : St) : runI cfg 4 n4_17 fr st = thenR cfg 4 n4_20 (runI cfg 4 n4_18 fr st) := run_seq (by kernel_rfl)
@[simp] theorem e4_18 (fr : Fr) (st : St) : runI cfg 4 n4_18 fr st = blockI 1 (runI cfg 4 n4_19 fr st) := run_block (by kernel_rfl)
@[simp] theorem e4_19 (fr : Fr) (st : St) : runI cfg 4 n4_19 fr st = ob (lookF fr 0) fun x0 => ob (lookF fr 1) fun x1 => ob (lookF fr 5) fun x5 => ob (lookF fr 6) fun x6 => ob (convV cfg.P (opAt n4_19 2) false (some (.int .i64)) (some (.int .u8)) none none x6) fun x27 => ob (fillA 1 (repeatL [(.d (.int .u8 0))] 1) [(0, x27)]) fun c3 => ob (T.toDs c3) fun d3 => ob (fillA 1 (repeatL [nilS] 1) [(0, (.sl false 1 d3 .lit))]) fun c4 => ob (T.toDs c4) fun d4 => ob (appV 1 24 st x5 (.sl false 1 d4 .lit)) fun a5 => (some (.normal, [(0, x0), (1, x1), (5, a5.1), (6, x6)], ⟨st.H, a5.2⟩) : Res) :=
  (runI_reg (c := n4_19) (id := 6) (ops := opsOf n4_19) (draw := false) (by kernel_rfl)).trans (by kernel_rfl)
@[simp] theorem e4_20 (fr : Fr) (st : St) : runI cfg 4 n4_20 fr st = ob (lookF fr 0) fun x0 => ob (lookF fr 1) fun x1 => ob (lookF fr 5) fun x5 => ob (lookF fr 6) fun x6 => ob (binV cfg.P (opAt n4_20 1) .add 3 (.int .i64) x6 (.d (.int .i64 1))) fun x24 => (some (.normal, [(0, x0), (1, x1), (5, x5), (6, x24)], st) : Res) :=
  (runI_reg (c := n4_20) (id := 5) (ops := opsOf n4_20) (draw := false) (by kernel_rfl)).trans (by kernel_rfl)
@[simp] theorem e4_21 (fr : Fr) (st : St) : runI cfg 4 n4_21 fr st = thenR cfg 4 n4_23 (runI cfg 4 n4_22 fr st) := run_seq (by kernel_rfl)
@[simp] theorem e4_22 (fr : Fr) (st : St) : runI cfg 4 n4_22 fr st = ob (lookF fr 0) fun x0 => ob (lookF fr 1) fun x1 => ob (lookF fr 5) fun x5 => ob (makeV [(.d (.int .u8 0))] 1 1 x1 x1) fun m2 => ob (T.toDs m2.2) fun d2 => ob (fillA 1 (repeatL [nilS] 1) [(0, (.sl false m2.1 d2 .ro))]) fun c3 => ob (T.toDs c3) fun d3 => ob (appV 1 24 st x5 (.sl false 1 d3 .lit)) fun a4 => (some (.normal, [(0, x0), (1, x1), (5, a4.1)], ⟨st.H, a4.2⟩) : Res) :=
  (runI_reg (c := n4_22) (id := 7) (ops := opsOf n4_22) (draw := false) (by kernel_rfl)).trans (by kernel_rfl)
@[simp] theorem e4_23 (fr : Fr) (st : St) : runI cfg 4 n4_23 fr st = thenR cfg 4 n4_25 (runI cfg 4 n4_24 fr st) := run_seq (by kernel_rfl)
@[simp] theorem e4_24 (fr : Fr) (st : St) : runI cfg 4 n4_24 fr st = ob (lookF fr 0) fun x0 => ob (lookF fr 1) fun x1 => ob (lookF fr 5) fun x5 => ob (binV cfg.P (opAt n4_24 1) .and 3 (.int .i64) x0 (.d (.int .i64 15))) fun x37 => ob (fillS [(0, 1), (1, 1), (2, 1)] [(.d (.int .i64 0)), (.d (.int .i64 0)), (.d (.string ByteArray.empty))] [(0, (.d (.int .i64 2))), (1, x37)]) fun c2 => ob (fillA 3 (repeatL [(.d (.int .i64 0)), (.d (.int .i64 0)), (.d (.string ByteArray.empty))] 1) [(0, (.agg c2))]) fun c3 => ob (T.toDs c3) fun d3 => ob (callI cfg 16 [(.sl false 1 d3 .lit), x5] st) fun r5 => (some (.normal, [(0, x0), (1, x1), (5, x5), (7, r5.1)], r5.2) : Res) :=
  (runI_reg (c := n4_24) (id := 8) (ops := opsOf n4_24) (draw := false) (by kernel_rfl)).trans (by kernel_rfl)
@[simp] theorem e4_25 (fr : Fr) (st : St) : runI cfg 4 n4_25 fr st = thenR cfg 4 n4_27 (runI cfg 4 n4_26 fr st) := run_seq (by kernel_rfl)
@[simp] theorem e4_26 (fr : Fr) (st : St) : runI cfg 4 n4_26 fr st = ob (lookF fr 0) fun x0 => ob (lookF fr 1) fun x1 => ob (lookF fr 5) fun x5 => ob (lookF fr 7) fun x7 => ob (callI cfg 17 [x7] st) fun r1 => ob (exV 0 r1.1) fun x45 => ob (exV 1 r1.1) fun x46 => ob (exV 2 r1.1) fun x47 => (some (.normal, [(0, x0), (1, x1), (5, x5), (7, x7), (9, x46), (10, x47)], r1.2) : Res) :=
  (runI_reg (c := n4_26) (id := 9) (ops := opsOf n4_26) (draw := false) (by kernel_rfl)).trans (by kernel_rfl)
@[simp] theorem e4_27 (fr : Fr) (st : St) : runI cfg 4 n4_27 fr st = thenR cfg 4 n4_29 (runI cfg 4 n4_28 fr st) := run_seq (by kernel_rfl)
@[simp] theorem e4_28 (fr : Fr) (st : St) : runI cfg 4 n4_28 fr st = ob (lookF fr 0) fun x0 => ob (lookF fr 1) fun x1 => ob (lookF fr 5) fun x5 => ob (lookF fr 7) fun x7 => ob (lookF fr 9) fun x9 => ob (lookF fr 10) fun x10 => ob (callI cfg 18 [x7] st) fun r1 => ob (exV 0 r1.1) fun x51 => ob (exV 1 r1.1) fun x52 => (some (.normal, [(0, x0), (1, x1), (5, x5), (9, x9), (10, x10), (11, x51), (12, x52)], r1.2) : Res) :=
  (runI_reg (c := n4_28) (id := 10) (ops := opsOf n4_28) (draw := false) (by kernel_rfl)).trans (by kernel_rfl)
@[simp] theorem e4_29 (fr : Fr) (st : St) : runI cfg 4 n4_29 fr st = thenR cfg 4 n4_31 (runI cfg 4 n4_30 fr st) := run_seq (by kernel_rfl)
@[simp] theorem e4_30 (fr : Fr) (st : St) : runI cfg 4 n4_30 fr st = ob (lookF fr 0) fun x0 => ob (lookF fr 1) fun x1 => ob (lookF fr 5) fun x5 => ob (lookF fr 9) fun x9 => ob (lookF fr 10) fun x10 => ob (lookF fr 11) fun x11 => ob (lookF fr 12) fun x12 => ob (binV cfg.P (opAt n4_30 1) .lss 3 (.int .i64) x0 (.d (.int .i64 8))) fun x54 => gC x54 (none) (ob (binV cfg.P (opAt n4_30 4) .leq 3 (.int .i64) x1 (.d (.int .i64 256))) fun x57 => (some (.normal, [(0, x0), (5, x5), (9, x9), (10, x10), (11, x11), (12, x12), (13, x57)], st) : Res)) ((some (.normal, [(0, x0), (5, x5), (9, x9), (10, x10), (11, x11), (12, x12), (13, ff)], st) : Res)) :=
  (runI_reg (c := n4_30) (id := 11) (ops := opsOf n4_30) (draw := false) (by kernel_rfl)).trans (by kernel_rfl)
@[simp] theorem e4_31 (fr : Fr) (st : St) : runI cfg 4 n4_31 fr st = thenR cfg 4 n4_33 (runI cfg 4 n4_32 fr st) := run_seq (by kernel_rfl)
@[simp] theorem e4_32 (fr : Fr) (st : St) : runI cfg 4 n4_32 fr st = ob (lookF fr 0) fun x0 => ob (lookF fr 5) fun x5 => ob (lookF fr 9) fun x9 => ob (lookF fr 10) fun x10 => ob (lookF fr 11) fun x11 => ob (lookF fr 12) fun x12 => ob (lookF fr 13) fun x13 => ob (binV cfg.P (opAt n4_32 2) .eql 4 .bool x10 x13) fun x61 => gC x61 (none) (ob (binV cfg.P (opAt n4_32 6) .eql 4 .bool x12 x13) fun x65 => gC x65 (none) (ob (notV cfg.P (opAt n4_32 10) .not x13) fun x69 => gC x69 (none) (ob (callI cfg 20 [] st) fun r28 => (some (.normal, [(4, r28.1)], r28.2) : Res)) (ob (callI cfg 19 [x9, x5] st) fun r14 => gC r14.1 (none) (ob (convV cfg.P (opAt n4_32 17) false (some (.slice 5)) (some .string) (some (.int .u8)) none x11) fun x76 => ob (ixV 1 x5 x0) fun x79 => ob (loadV 1 false r14.2.H x79) fun x80 => ob (convV cfg.P (opAt n4_32 22) false (some (.slice 5)) (some .string) (some (.int .u8)) none x80) fun x81 => ob (binV cfg.P (opAt n4_32 23) .eql 9 .string x76 x81) fun x82 => gC x82 (none) (ob (callI cfg 20 [] r14.2) fun r28 => (some (.normal, [(4, r28.1)], r28.2) : Res)) ((some (.normal, [(4, ff)], r14.2) : Res))) ((some (.normal, [(4, ff)], r14.2) : Res)))) ((some (.normal, [(4, ff)], st) : Res))) ((some (.normal, [(4, ff)], st) : Res)) :=
  (runI_reg (c := n4_32) (id := 12) (ops := opsOf n4_32) (draw := true) (by kernel_rfl)).trans (by kernel_rfl)
@[simp] theorem e4_33 (fr : Fr) (st : St) : runI cfg 4 n4_33 fr st = some (.ret, fr, st) := run_ret (by kernel_rfl)
@[simp] theorem z4 (fr : Fr) (st : St) : endR cfg Try.f4 (some (.ret, fr, st)) = ob (lookF fr 4) fun x0 => some (x0, st) := end_r.trans (by kernel_rfl)
@[simp] theorem w4 (fr : Fr) (st : St) : endR cfg Try.f4 (some (.normal, fr, st)) = ob (lookF fr 4) fun x0 => some (x0, st) := end_n.trans (by kernel_rfl)
theorem c4 (ts : List T) (st : St) : callI cfg 4 ts st = ob (closeAll ts) fun ts => backR st (endR cfg Try.f4 (runI cfg 4 n4_0 (enumF 0 ts) ⟨[], []⟩)) := call_pure (by kernel_rfl) (by kernel_rfl) (by kernel_rfl) (by kernel_rfl)
/-! 5: fettle.fettlelaw10.PrntOwn -/
noncomputable def n5_0 : Code := codeB Try.f5
noncomputable def n5_1 : Code := kid n5_0 false
noncomputable def n5_2 : Code := kid n5_0 true
noncomputable def n5_3 : Code := kid n5_2 false
noncomputable def n5_4 : Code := kid n5_3 false
noncomputable def n5_5 : Code := kid n5_3 true
noncomputable def n5_6 : Code := kid n5_5 false
noncomputable def n5_7 : Code := kid n5_5 true
noncomputable def n5_8 : Code := kid n5_2 true
noncomputable def n5_9 : Code := kid n5_8 false
noncomputable def n5_10 : Code := kid n5_9 false
noncomputable def n5_11 : Code := kid n5_9 true
noncomputable def n5_12 : Code := kid n5_11 false
noncomputable def n5_13 : Code := kid n5_12 false
noncomputable def n5_14 : Code := kid n5_13 false
noncomputable def n5_15 : Code := kid n5_13 true
noncomputable def n5_16 : Code := kid n5_15 false
noncomputable def n5_17 : Code := kid n5_16 false
noncomputable def n5_18 : Code := kid n5_16 true
noncomputable def n5_19 : Code := kid n5_15 true
noncomputable def n5_20 : Code := kid n5_19 false
noncomputable def n5_21 : Code := kid n5_20 false
noncomputable def n5_22 : Code := kid n5_21 false
noncomputable def n5_23 : Code := kid n5_21 true
noncomputable def n5_24 : Code := kid n5_23 false
noncomputable def n5_25 : Code := kid n5_23 true
noncomputable def n5_26 : Code := kid n5_25 false
noncomputable def n5_27 : Code := kid n5_26 false
noncomputable def n5_28 : Code := kid n5_26 true
noncomputable def n5_29 : Code := kid n5_25 true
noncomputable def n5_30 : Code := kid n5_19 true
noncomputable def n5_31 : Code := kid n5_8 true
noncomputable def n5_32 : Code := kid n5_31 false
noncomputable def n5_33 : Code := kid n5_31 true
noncomputable def n5_34 : Code := kid n5_33 false
noncomputable def n5_35 : Code := kid n5_33 true
noncomputable def n5_36 : Code := kid n5_35 false
noncomputable def n5_37 : Code := kid n5_35 true
noncomputable def n5_38 : Code := kid n5_37 false
noncomputable def n5_39 : Code := kid n5_38 false
noncomputable def n5_40 : Code := kid n5_38 true
noncomputable def n5_41 : Code := kid n5_40 false
noncomputable def n5_42 : Code := kid n5_41 false
noncomputable def n5_43 : Code := kid n5_42 false
noncomputable def n5_44 : Code := kid n5_42 true
noncomputable def n5_45 : Code := kid n5_44 false
noncomputable def n5_46 : Code := kid n5_45 false
noncomputable def n5_47 : Code := kid n5_45 true
noncomputable def n5_48 : Code := kid n5_44 true
noncomputable def n5_49 : Code := kid n5_48 false
noncomputable def n5_50 : Code := kid n5_49 false
noncomputable def n5_51 : Code := kid n5_50 false
noncomputable def n5_52 : Code := kid n5_50 true
noncomputable def n5_53 : Code := kid n5_52 false
noncomputable def n5_54 : Code := kid n5_52 true
noncomputable def n5_55 : Code := kid n5_54 false
noncomputable def n5_56 : Code := kid n5_55 false
noncomputable def n5_57 : Code := kid n5_56 false
noncomputable def n5_58 : Code := kid n5_56 true
noncomputable def n5_59 : Code := kid n5_58 false
noncomputable def n5_60 : Code := kid n5_59 false
noncomputable def n5_61 : Code := kid n5_59 true
noncomputable def n5_62 : Code := kid n5_58 true
noncomputable def n5_63 : Code := kid n5_62 false
noncomputable def n5_64 : Code := kid n5_63 false
noncomputable def n5_65 : Code := kid n5_64 false
noncomputable def n5_66 : Code := kid n5_64 true
noncomputable def n5_67 : Code := kid n5_62 true
noncomputable def n5_68 : Code := kid n5_48 true
noncomputable def n5_69 : Code := kid n5_37 true
noncomputable def n5_70 : Code := kid n5_69 false
noncomputable def n5_71 : Code := kid n5_69 true
noncomputable def n5_72 : Code := kid n5_71 false
noncomputable def n5_73 : Code := kid n5_72 false
noncomputable def n5_74 : Code := kid n5_72 true
noncomputable def n5_75 : Code := kid n5_74 false
noncomputable def n5_76 : Code := kid n5_75 false
noncomputable def n5_77 : Code := kid n5_76 false
noncomputable def n5_78 : Code := kid n5_76 true
noncomputable def n5_79 : Code := kid n5_78 false
noncomputable def n5_80 : Code := kid n5_79 false
noncomputable def n5_81 : Code := kid n5_79 true
noncomputable def n5_82 : Code := kid n5_78 true
noncomputable def n5_83 : Code := kid n5_82 false
noncomputable def n5_84 : Code := kid n5_83 false
noncomputable def n5_85 : Code := kid n5_84 false
noncomputable def n5_86 : Code := kid n5_84 true
noncomputable def n5_87 : Code := kid n5_82 true
noncomputable def n5_88 : Code := kid n5_71 true
noncomputable def n5_89 : Code := kid n5_88 false
noncomputable def n5_90 : Code := kid n5_88 true
noncomputable def n5_91 : Code := kid n5_90 false
noncomputable def n5_92 : Code := kid n5_90 true
@[simp] theorem e5_0 (fr : Fr) (st : St) : runI cfg 5 n5_0 fr st = thenR cfg 5 n5_2 (runI cfg 5 n5_1 fr st) := run_seq (by kernel_rfl)
@[simp] theorem e5_1 (fr : Fr) (st : St) : runI cfg 5 n5_1 fr st = ob (lookF fr 0) fun x0 => ob (lookF fr 1) fun x1 => (some (.normal, [(0, x0), (1, x1)], st) : Res) :=
  (runI_reg (c := n5_1) (id := 0) (ops := opsOf n5_1) (draw := false) (by kernel_rfl)).trans (by kernel_rfl)
@[simp] theorem e5_2 (fr : Fr) (st : St) : runI cfg 5 n5_2 fr st = thenR cfg 5 n5_8 (runI cfg 5 n5_3 fr st) := run_seq (by kernel_rfl)
@[simp] theorem e5_3 (fr : Fr) (st : St) : runI cfg 5 n5_3 fr st = thenR cfg 5 n5_5 (runI cfg 5 n5_4 fr st) := run_seq (by kernel_rfl)
@[simp] theorem e5_4 (fr : Fr) (st : St) : runI cfg 5 n5_4 fr st = ob (lookF fr 0) fun x0 => ob (lookF fr 1) fun x1 => ob (lenV (.slice 31) st.H x1) fun x22 => ob (binV cfg.P (opAt n5_4 2) .gtr 3 (.int .i64) x22 (.d (.int .i64 8))) fun x23 => (some (.normal, [(0, x0), (1, x1), (23, x23)], st) : Res) :=
  (runI_reg (c := n5_4) (id := 1) (ops := opsOf n5_4) (draw := false) (by kernel_rfl)).trans (by kernel_rfl)
@[simp] theorem e5_5 (fr : Fr) (st : St) : runI cfg 5 n5_5 fr st = ob (lookF fr 23) fun v => gC v none (runI cfg 5 n5_6 fr st) (runI cfg 5 n5_7 fr st) := run_cond (x := .tmp 23) (by kernel_rfl)
@[simp] theorem e5_6 (fr : Fr) (st : St) : runI cfg 5 n5_6 fr st = ob (lookF fr 0) fun x0 => ob (lookF fr 1) fun x1 => ob (sliceV (.slice 31) (some 1) x1 none (some (.d (.int .i64 8))) none) fun x25 => (some (.normal, [(0, x0), (1, x25)], st) : Res) :=
  (runI_reg (c := n5_6) (id := 2) (ops := opsOf n5_6) (draw := false) (by kernel_rfl)).trans (by kernel_rfl)
@[simp] theorem e5_7 (fr : Fr) (st : St) : runI cfg 5 n5_7 fr st = some (.normal, fr, st) := run_skip (by kernel_rfl)
@[simp] theorem e5_8 (fr : Fr) (st : St) : runI cfg 5 n5_8 fr st = thenR cfg 5 n5_31 (runI cfg 5 n5_9 fr st) := run_seq (by kernel_rfl)
@[simp] theorem e5_9 (fr : Fr) (st : St) : runI cfg 5 n5_9 fr st = thenR cfg 5 n5_11 (runI cfg 5 n5_10 fr st) := run_seq (by kernel_rfl)
@[simp] theorem e5_10 (fr : Fr) (st : St) : runI cfg 5 n5_10 fr st = ob (lookF fr 0) fun x0 => ob (lookF fr 1) fun x1 => ob (lenV (.slice 31) st.H x1) fun x27 => (some (.normal, [(0, x0), (1, x1), (26, x1), (27, x27), (28, (.d (.int .i64 0)))], st) : Res) :=
  (runI_reg (c := n5_10) (id := 3) (ops := opsOf n5_10) (draw := false) (by kernel_rfl)).trans (by kernel_rfl)
@[simp] theorem e5_11 (fr : Fr) (st : St) : runI cfg 5 n5_11 fr st = blockI 0 (runI cfg 5 n5_12 fr st) := run_block (by kernel_rfl)
theorem l5_12 (fr : Fr) (st : St) : runI cfg 5 n5_12 fr st = loopR cfg 5 n5_12 st.H.length (runI cfg 5 n5_13 fr st) := run_loop (by kernel_rfl)
@[simp] theorem e5_13 (fr : Fr) (st : St) : runI cfg 5 n5_13 fr st = thenR cfg 5 n5_15 (runI cfg 5 n5_14 fr st) := run_seq (by kernel_rfl)
@[simp] theorem e5_14 (fr : Fr) (st : St) : runI cfg 5 n5_14 fr st = ob (lookF fr 0) fun x0 => ob (lookF fr 1) fun x1 => ob (lookF fr 26) fun x26 => ob (lookF fr 27) fun x27 => ob (lookF fr 28) fun x28 => ob (binV cfg.P (opAt n5_14 0) .lss 3 (.int .i64) x28 x27) fun x29 => (some (.normal, [(0, x0), (1, x1), (26, x26), (27, x27), (28, x28), (29, x29)], st) : Res) :=
  (runI_reg (c := n5_14) (id := 4) (ops := opsOf n5_14) (draw := false) (by kernel_rfl)).trans (by kernel_rfl)
@[simp] theorem e5_15 (fr : Fr) (st : St) : runI cfg 5 n5_15 fr st = thenR cfg 5 n5_19 (runI cfg 5 n5_16 fr st) := run_seq (by kernel_rfl)
@[simp] theorem e5_16 (fr : Fr) (st : St) : runI cfg 5 n5_16 fr st = ob (lookF fr 29) fun v => gC v none (runI cfg 5 n5_17 fr st) (runI cfg 5 n5_18 fr st) := run_cond (x := .tmp 29) (by kernel_rfl)
@[simp] theorem e5_17 (fr : Fr) (st : St) : runI cfg 5 n5_17 fr st = some (.normal, fr, st) := run_skip (by kernel_rfl)
@[simp] theorem e5_18 (fr : Fr) (st : St) : runI cfg 5 n5_18 fr st = some (.exit 0, fr, st) := run_exit (by kernel_rfl)
@[simp] theorem e5_19 (fr : Fr) (st : St) : runI cfg 5 n5_19 fr st = thenR cfg 5 n5_30 (runI cfg 5 n5_20 fr st) := run_seq (by kernel_rfl)
@[simp] theorem e5_20 (fr : Fr) (st : St) : runI cfg 5 n5_20 fr st = blockI 1 (runI cfg 5 n5_21 fr st) := run_block (by kernel_rfl)
@[simp] theorem e5_21 (fr : Fr) (st : St) : runI cfg 5 n5_21 fr st = thenR cfg 5 n5_23 (runI cfg 5 n5_22 fr st) := run_seq (by kernel_rfl)
@[simp] theorem e5_22 (fr : Fr) (st : St) : runI cfg 5 n5_22 fr st = ob (lookF fr 0) fun x0 => ob (lookF fr 1) fun x1 => ob (lookF fr 26) fun x26 => ob (lookF fr 27) fun x27 => ob (lookF fr 28) fun x28 => ob (ixV 1 x26 x28) fun x30 => ob (loadV 1 false st.H x30) fun x31 => (some (.normal, [(0, x0), (1, x1), (6, x31), (26, x26), (27, x27), (28, x28)], st) : Res) :=
  (runI_reg (c := n5_22) (id := 5) (ops := opsOf n5_22) (draw := false) (by kernel_rfl)).trans (by kernel_rfl)
@[simp] theorem e5_23 (fr : Fr) (st : St) : runI cfg 5 n5_23 fr st = thenR cfg 5 n5_25 (runI cfg 5 n5_24 fr st) := run_seq (by kernel_rfl)
@[simp] theorem e5_24 (fr : Fr) (st : St) : runI cfg 5 n5_24 fr st = ob (lookF fr 0) fun x0 => ob (lookF fr 1) fun x1 => ob (lookF fr 6) fun x6 => ob (lookF fr 26) fun x26 => ob (lookF fr 27) fun x27 => ob (lookF fr 28) fun x28 => ob (lenV (.slice 5) st.H x6) fun x33 => ob (binV cfg.P (opAt n5_24 2) .gtr 3 (.int .i64) x33 (.d (.int .i64 256))) fun x34 => (some (.normal, [(0, x0), (1, x1), (26, x26), (27, x27), (28, x28), (34, x34)], st) : Res) :=
  (runI_reg (c := n5_24) (id := 6) (ops := opsOf n5_24) (draw := false) (by kernel_rfl)).trans (by kernel_rfl)
@[simp] theorem e5_25 (fr : Fr) (st : St) : runI cfg 5 n5_25 fr st = ob (lookF fr 34) fun v => gC v none (runI cfg 5 n5_26 fr st) (runI cfg 5 n5_29 fr st) := run_cond (x := .tmp 34) (by kernel_rfl)
@[simp] theorem e5_26 (fr : Fr) (st : St) : runI cfg 5 n5_26 fr st = thenR cfg 5 n5_28 (runI cfg 5 n5_27 fr st) := run_seq (by kernel_rfl)
@[simp] theorem e5_27 (fr : Fr) (st : St) : runI cfg 5 n5_27 fr st = ob (callI cfg 20 [] st) fun r0 => (some (.normal, [(4, r0.1)], r0.2) : Res) :=
  (runI_reg (c := n5_27) (id := 7) (ops := opsOf n5_27) (draw := false) (by kernel_rfl)).trans (by kernel_rfl)
@[simp] theorem e5_28 (fr : Fr) (st : St) : runI cfg 5 n5_28 fr st = some (.ret, fr, st) := run_ret (by kernel_rfl)
@[simp] theorem e5_29 (fr : Fr) (st : St) : runI cfg 5 n5_29 fr st = some (.normal, fr, st) := run_skip (by kernel_rfl)
@[simp] theorem e5_30 (fr : Fr) (st : St) : runI cfg 5 n5_30 fr st = ob (lookF fr 0) fun x0 => ob (lookF fr 1) fun x1 => ob (lookF fr 26) fun x26 => ob (lookF fr 27) fun x27 => ob (lookF fr 28) fun x28 => ob (binV cfg.P (opAt n5_30 0) .add 3 (.int .i64) x28 (.d (.int .i64 1))) fun x36 => (some (.normal, [(0, x0), (1, x1), (26, x26), (27, x27), (28, x36)], st) : Res) :=
  (runI_reg (c := n5_30) (id := 8) (ops := opsOf n5_30) (draw := false) (by kernel_rfl)).trans (by kernel_rfl)
@[simp] theorem e5_31 (fr : Fr) (st : St) : runI cfg 5 n5_31 fr st = thenR cfg 5 n5_33 (runI cfg 5 n5_32 fr st) := run_seq (by kernel_rfl)
@[simp] theorem e5_32 (fr : Fr) (st : St) : runI cfg 5 n5_32 fr st = ob (lookF fr 0) fun x0 => ob (lookF fr 1) fun x1 => ob (callI cfg 21 [x0] st) fun r1 => ob (callI cfg 16 [r1.1, x1] r1.2) fun r3 => (some (.normal, [(1, x1), (7, r3.1)], r3.2) : Res) :=
  (runI_reg (c := n5_32) (id := 9) (ops := opsOf n5_32) (draw := false) (by kernel_rfl)).trans (by kernel_rfl)
@[simp] theorem e5_33 (fr : Fr) (st : St) : runI cfg 5 n5_33 fr st = thenR cfg 5 n5_35 (runI cfg 5 n5_34 fr st) := run_seq (by kernel_rfl)
@[simp] theorem e5_34 (fr : Fr) (st : St) : runI cfg 5 n5_34 fr st = ob (lookF fr 1) fun x1 => ob (lookF fr 7) fun x7 => ob (convV cfg.P (opAt n5_34 1) false (some (.slice 5)) (some .string) (some (.int .u8)) none x7) fun x42 => (some (.normal, [(1, x1), (7, x7), (8, x42)], st) : Res) :=
  (runI_reg (c := n5_34) (id := 10) (ops := opsOf n5_34) (draw := false) (by kernel_rfl)).trans (by kernel_rfl)
@[simp] theorem e5_35 (fr : Fr) (st : St) : runI cfg 5 n5_35 fr st = thenR cfg 5 n5_37 (runI cfg 5 n5_36 fr st) := run_seq (by kernel_rfl)
@[simp] theorem e5_36 (fr : Fr) (st : St) : runI cfg 5 n5_36 fr st = ob (lookF fr 1) fun x1 => ob (lookF fr 7) fun x7 => ob (lookF fr 8) fun x8 => ob (callI cfg 17 [x7] st) fun r1 => ob (exV 0 r1.1) fun x46 => ob (exV 1 r1.1) fun x47 => ob (exV 2 r1.1) fun x48 => (some (.normal, [(1, x1), (7, x7), (8, x8), (10, x47), (11, x48)], r1.2) : Res) :=
  (runI_reg (c := n5_36) (id := 11) (ops := opsOf n5_36) (draw := false) (by kernel_rfl)).trans (by kernel_rfl)
@[simp] theorem e5_37 (fr : Fr) (st : St) : runI cfg 5 n5_37 fr st = thenR cfg 5 n5_69 (runI cfg 5 n5_38 fr st) := run_seq (by kernel_rfl)
@[simp] theorem e5_38 (fr : Fr) (st : St) : runI cfg 5 n5_38 fr st = thenR cfg 5 n5_40 (runI cfg 5 n5_39 fr st) := run_seq (by kernel_rfl)
@[simp] theorem e5_39 (fr : Fr) (st : St) : runI cfg 5 n5_39 fr st = ob (lookF fr 1) fun x1 => ob (lookF fr 7) fun x7 => ob (lookF fr 8) fun x8 => ob (lookF fr 10) fun x10 => ob (lookF fr 11) fun x11 => ob (lenV (.slice 31) st.H x10) fun x50 => (some (.normal, [(1, x1), (7, x7), (8, x8), (11, x11), (49, x10), (50, x50), (51, (.d (.int .i64 0)))], st) : Res) :=
  (runI_reg (c := n5_39) (id := 12) (ops := opsOf n5_39) (draw := false) (by kernel_rfl)).trans (by kernel_rfl)
@[simp] theorem e5_40 (fr : Fr) (st : St) : runI cfg 5 n5_40 fr st = blockI 2 (runI cfg 5 n5_41 fr st) := run_block (by kernel_rfl)
theorem l5_41 (fr : Fr) (st : St) : runI cfg 5 n5_41 fr st = loopR cfg 5 n5_41 st.H.length (runI cfg 5 n5_42 fr st) := run_loop (by kernel_rfl)
@[simp] theorem e5_42 (fr : Fr) (st : St) : runI cfg 5 n5_42 fr st = thenR cfg 5 n5_44 (runI cfg 5 n5_43 fr st) := run_seq (by kernel_rfl)
@[simp] theorem e5_43 (fr : Fr) (st : St) : runI cfg 5 n5_43 fr st = ob (lookF fr 1) fun x1 => ob (lookF fr 7) fun x7 => ob (lookF fr 8) fun x8 => ob (lookF fr 11) fun x11 => ob (lookF fr 49) fun x49 => ob (lookF fr 50) fun x50 => ob (lookF fr 51) fun x51 => ob (binV cfg.P (opAt n5_43 0) .lss 3 (.int .i64) x51 x50) fun x52 => (some (.normal, [(1, x1), (7, x7), (8, x8), (11, x11), (49, x49), (50, x50), (51, x51), (52, x52)], st) : Res) :=
  (runI_reg (c := n5_43) (id := 13) (ops := opsOf n5_43) (draw := false) (by kernel_rfl)).trans (by kernel_rfl)
@[simp] theorem e5_44 (fr : Fr) (st : St) : runI cfg 5 n5_44 fr st = thenR cfg 5 n5_48 (runI cfg 5 n5_45 fr st) := run_seq (by kernel_rfl)
@[simp] theorem e5_45 (fr : Fr) (st : St) : runI cfg 5 n5_45 fr st = ob (lookF fr 52) fun v => gC v none (runI cfg 5 n5_46 fr st) (runI cfg 5 n5_47 fr st) := run_cond (x := .tmp 52) (by kernel_rfl)
@[simp] theorem e5_46 (fr : Fr) (st : St) : runI cfg 5 n5_46 fr st = some (.normal, fr, st) := run_skip (by kernel_rfl)
@[simp] theorem e5_47 (fr : Fr) (st : St) : runI cfg 5 n5_47 fr st = some (.exit 2, fr, st) := run_exit (by kernel_rfl)
@[simp] theorem e5_48 (fr : Fr) (st : St) : runI cfg 5 n5_48 fr st = thenR cfg 5 n5_68 (runI cfg 5 n5_49 fr st) := run_seq (by kernel_rfl)
@[simp] theorem e5_49 (fr : Fr) (st : St) : runI cfg 5 n5_49 fr st = blockI 3 (runI cfg 5 n5_50 fr st) := run_block (by kernel_rfl)
@[simp] theorem e5_50 (fr : Fr) (st : St) : runI cfg 5 n5_50 fr st = thenR cfg 5 n5_52 (runI cfg 5 n5_51 fr st) := run_seq (by kernel_rfl)
@[simp] theorem e5_51 (fr : Fr) (st : St) : runI cfg 5 n5_51 fr st = ob (lookF fr 1) fun x1 => ob (lookF fr 7) fun x7 => ob (lookF fr 8) fun x8 => ob (lookF fr 11) fun x11 => ob (lookF fr 49) fun x49 => ob (lookF fr 50) fun x50 => ob (lookF fr 51) fun x51 => ob (ixV 1 x49 x51) fun x53 => ob (loadV 1 false st.H x53) fun x54 => (some (.normal, [(1, x1), (7, x7), (8, x8), (11, x11), (13, x54), (49, x49), (50, x50), (51, x51)], st) : Res) :=
  (runI_reg (c := n5_51) (id := 14) (ops := opsOf n5_51) (draw := false) (by kernel_rfl)).trans (by kernel_rfl)
@[simp] theorem e5_52 (fr : Fr) (st : St) : runI cfg 5 n5_52 fr st = thenR cfg 5 n5_54 (runI cfg 5 n5_53 fr st) := run_seq (by kernel_rfl)
@[simp] theorem e5_53 (fr : Fr) (st : St) : runI cfg 5 n5_53 fr st = ob (lookF fr 1) fun x1 => ob (lookF fr 7) fun x7 => ob (lookF fr 8) fun x8 => ob (lookF fr 11) fun x11 => ob (lookF fr 13) fun x13 => ob (lookF fr 49) fun x49 => ob (lookF fr 50) fun x50 => ob (lookF fr 51) fun x51 => ob (lenV (.slice 5) st.H x13) fun x56 => (some (.normal, [(1, x1), (7, x7), (8, x8), (11, x11), (13, x13), (49, x49), (50, x50), (51, x51), (56, x56), (57, (.d (.int .i64 0)))], st) : Res) :=
  (runI_reg (c := n5_53) (id := 15) (ops := opsOf n5_53) (draw := false) (by kernel_rfl)).trans (by kernel_rfl)
@[simp] theorem e5_54 (fr : Fr) (st : St) : runI cfg 5 n5_54 fr st = blockI 4 (runI cfg 5 n5_55 fr st) := run_block (by kernel_rfl)
theorem l5_55 (fr : Fr) (st : St) : runI cfg 5 n5_55 fr st = loopR cfg 5 n5_55 st.H.length (runI cfg 5 n5_56 fr st) := run_loop (by kernel_rfl)
@[simp] theorem e5_56 (fr : Fr) (st : St) : runI cfg 5 n5_56 fr st = thenR cfg 5 n5_58 (runI cfg 5 n5_57 fr st) := run_seq (by kernel_rfl)
@[simp] theorem e5_57 (fr : Fr) (st : St) : runI cfg 5 n5_57 fr st = ob (lookF fr 1) fun x1 => ob (lookF fr 7) fun x7 => ob (lookF fr 8) fun x8 => ob (lookF fr 11) fun x11 => ob (lookF fr 13) fun x13 => ob (lookF fr 49) fun x49 => ob (lookF fr 50) fun x50 => ob (lookF fr 51) fun x51 => ob (lookF fr 56) fun x56 => ob (lookF fr 57) fun x57 => ob (binV cfg.P (opAt n5_57 0) .lss 3 (.int .i64) x57 x56) fun x58 => (some (.normal, [(1, x1), (7, x7), (8, x8), (11, x11), (13, x13), (49, x49), (50, x50), (51, x51), (56, x56), (57, x57), (58, x58)], st) : Res) :=
  (runI_reg (c := n5_57) (id := 16) (ops := opsOf n5_57) (draw := false) (by kernel_rfl)).trans (by kernel_rfl)
@[simp] theorem e5_58 (fr : Fr) (st : St) : runI cfg 5 n5_58 fr st = thenR cfg 5 n5_62 (runI cfg 5 n5_59 fr st) := run_seq (by kernel_rfl)
@[simp] theorem e5_59 (fr : Fr) (st : St) : runI cfg 5 n5_59 fr st = ob (lookF fr 58) fun v => gC v none (runI cfg 5 n5_60 fr st) (runI cfg 5 n5_61 fr st) := run_cond (x := .tmp 58) (by kernel_rfl)
@[simp] theorem e5_60 (fr : Fr) (st : St) : runI cfg 5 n5_60 fr st = some (.normal, fr, st) := run_skip (by kernel_rfl)
@[simp] theorem e5_61 (fr : Fr) (st : St) : runI cfg 5 n5_61 fr st = some (.exit 4, fr, st) := run_exit (by kernel_rfl)
@[simp] theorem e5_62 (fr : Fr) (st : St) : runI cfg 5 n5_62 fr st = thenR cfg 5 n5_67 (runI cfg 5 n5_63 fr st) := run_seq (by kernel_rfl)
@[simp] theorem e5_63 (fr : Fr) (st : St) : runI cfg 5 n5_63 fr st = blockI 5 (runI cfg 5 n5_64 fr st) := run_block (by kernel_rfl)
@[simp] theorem e5_64 (fr : Fr) (st : St) : runI cfg 5 n5_64 fr st = thenR cfg 5 n5_66 (runI cfg 5 n5_65 fr st) := run_seq (by kernel_rfl)
@[simp] theorem e5_65 (fr : Fr) (st : St) : runI cfg 5 n5_65 fr st = ob (lookF fr 1) fun x1 => ob (lookF fr 7) fun x7 => ob (lookF fr 8) fun x8 => ob (lookF fr 11) fun x11 => ob (lookF fr 13) fun x13 => ob (lookF fr 49) fun x49 => ob (lookF fr 50) fun x50 => ob (lookF fr 51) fun x51 => ob (lookF fr 56) fun x56 => ob (lookF fr 57) fun x57 => (some (.normal, [(1, x1), (7, x7), (8, x8), (11, x11), (13, x13), (14, x57), (49, x49), (50, x50), (51, x51), (56, x56), (57, x57)], st) : Res) :=
  (runI_reg (c := n5_65) (id := 17) (ops := opsOf n5_65) (draw := false) (by kernel_rfl)).trans (by kernel_rfl)
@[simp] theorem e5_66 (fr : Fr) (st : St) : runI cfg 5 n5_66 fr st = ob (lookF fr 1) fun x1 => ob (lookF fr 7) fun x7 => ob (lookF fr 8) fun x8 => ob (lookF fr 11) fun x11 => ob (lookF fr 13) fun x13 => ob (lookF fr 14) fun x14 => ob (lookF fr 49) fun x49 => ob (lookF fr 50) fun x50 => ob (lookF fr 51) fun x51 => ob (lookF fr 56) fun x56 => ob (lookF fr 57) fun x57 => ob (ixV 1 x13 x14) fun x62 => ob (loadV 1 false st.H x62) fun x63 => ob (binV cfg.P (opAt n5_66 4) .add 5 (.int .u8) x63 (.d (.int .u8 1))) fun x64 => ob (ixV 1 x13 x14) fun x65 => ob (storeV 1 st.H x65 x64) fun h6 => (some (.normal, [(1, x1), (7, x7), (8, x8), (11, x11), (13, x13), (49, x49), (50, x50), (51, x51), (56, x56), (57, x57)], ⟨h6, st.E⟩) : Res) :=
  (runI_reg (c := n5_66) (id := 18) (ops := opsOf n5_66) (draw := false) (by kernel_rfl)).trans (by kernel_rfl)
@[simp] theorem e5_67 (fr : Fr) (st : St) : runI cfg 5 n5_67 fr st = ob (lookF fr 1) fun x1 => ob (lookF fr 7) fun x7 => ob (lookF fr 8) fun x8 => ob (lookF fr 11) fun x11 => ob (lookF fr 13) fun x13 => ob (lookF fr 49) fun x49 => ob (lookF fr 50) fun x50 => ob (lookF fr 51) fun x51 => ob (lookF fr 56) fun x56 => ob (lookF fr 57) fun x57 => ob (binV cfg.P (opAt n5_67 0) .add 3 (.int .i64) x57 (.d (.int .i64 1))) fun x66 => (some (.normal, [(1, x1), (7, x7), (8, x8), (11, x11), (13, x13), (49, x49), (50, x50), (51, x51), (56, x56), (57, x66)], st) : Res) :=
  (runI_reg (c := n5_67) (id := 19) (ops := opsOf n5_67) (draw := false) (by kernel_rfl)).trans (by kernel_rfl)
@[simp] theorem e5_68 (fr : Fr) (st : St) : runI cfg 5 n5_68 fr st = ob (lookF fr 1) fun x1 => ob (lookF fr 7) fun x7 => ob (lookF fr 8) fun x8 => ob (lookF fr 11) fun x11 => ob (lookF fr 49) fun x49 => ob (lookF fr 50) fun x50 => ob (lookF fr 51) fun x51 => ob (binV cfg.P (opAt n5_68 0) .add 3 (.int .i64) x51 (.d (.int .i64 1))) fun x67 => (some (.normal, [(1, x1), (7, x7), (8, x8), (11, x11), (49, x49), (50, x50), (51, x67)], st) : Res) :=
  (runI_reg (c := n5_68) (id := 20) (ops := opsOf n5_68) (draw := false) (by kernel_rfl)).trans (by kernel_rfl)
@[simp] theorem e5_69 (fr : Fr) (st : St) : runI cfg 5 n5_69 fr st = thenR cfg 5 n5_71 (runI cfg 5 n5_70 fr st) := run_seq (by kernel_rfl)
@[simp] theorem e5_70 (fr : Fr) (st : St) : runI cfg 5 n5_70 fr st = ob (lookF fr 1) fun x1 => ob (lookF fr 7) fun x7 => ob (lookF fr 8) fun x8 => ob (lookF fr 11) fun x11 => ob (callI cfg 18 [x7] st) fun r1 => ob (exV 0 r1.1) fun x71 => ob (exV 1 r1.1) fun x72 => (some (.normal, [(1, x1), (7, x7), (8, x8), (11, x11), (15, x71)], r1.2) : Res) :=
  (runI_reg (c := n5_70) (id := 21) (ops := opsOf n5_70) (draw := false) (by kernel_rfl)).trans (by kernel_rfl)
@[simp] theorem e5_71 (fr : Fr) (st : St) : runI cfg 5 n5_71 fr st = thenR cfg 5 n5_88 (runI cfg 5 n5_72 fr st) := run_seq (by kernel_rfl)
@[simp] theorem e5_72 (fr : Fr) (st : St) : runI cfg 5 n5_72 fr st = thenR cfg 5 n5_74 (runI cfg 5 n5_73 fr st) := run_seq (by kernel_rfl)
@[simp] theorem e5_73 (fr : Fr) (st : St) : runI cfg 5 n5_73 fr st = ob (lookF fr 1) fun x1 => ob (lookF fr 7) fun x7 => ob (lookF fr 8) fun x8 => ob (lookF fr 11) fun x11 => ob (lookF fr 15) fun x15 => ob (lenV (.slice 5) st.H x15) fun x74 => (some (.normal, [(1, x1), (7, x7), (8, x8), (11, x11), (15, x15), (74, x74), (75, (.d (.int .i64 0)))], st) : Res) :=
  (runI_reg (c := n5_73) (id := 22) (ops := opsOf n5_73) (draw := false) (by kernel_rfl)).trans (by kernel_rfl)
@[simp] theorem e5_74 (fr : Fr) (st : St) : runI cfg 5 n5_74 fr st = blockI 6 (runI cfg 5 n5_75 fr st) := run_block (by kernel_rfl)
theorem l5_75 (fr : Fr) (st : St) : runI cfg 5 n5_75 fr st = loopR cfg 5 n5_75 st.H.length (runI cfg 5 n5_76 fr st) := run_loop (by kernel_rfl)
@[simp] theorem e5_76 (fr : Fr) (st : St) : runI cfg 5 n5_76 fr st = thenR cfg 5 n5_78 (runI cfg 5 n5_77 fr st) := run_seq (by kernel_rfl)
@[simp] theorem e5_77 (fr : Fr) (st : St) : runI cfg 5 n5_77 fr st = ob (lookF fr 1) fun x1 => ob (lookF fr 7) fun x7 => ob (lookF fr 8) fun x8 => ob (lookF fr 11) fun x11 => ob (lookF fr 15) fun x15 => ob (lookF fr 74) fun x74 => ob (lookF fr 75) fun x75 => ob (binV cfg.P (opAt n5_77 0) .lss 3 (.int .i64) x75 x74) fun x76 => (some (.normal, [(1, x1), (7, x7), (8, x8), (11, x11), (15, x15), (74, x74), (75, x75), (76, x76)], st) : Res) :=
  (runI_reg (c := n5_77) (id := 23) (ops := opsOf n5_77) (draw := false) (by kernel_rfl)).trans (by kernel_rfl)
@[simp] theorem e5_78 (fr : Fr) (st : St) : runI cfg 5 n5_78 fr st = thenR cfg 5 n5_82 (runI cfg 5 n5_79 fr st) := run_seq (by kernel_rfl)
@[simp] theorem e5_79 (fr : Fr) (st : St) : runI cfg 5 n5_79 fr st = ob (lookF fr 76) fun v => gC v none (runI cfg 5 n5_80 fr st) (runI cfg 5 n5_81 fr st) := run_cond (x := .tmp 76) (by kernel_rfl)
@[simp] theorem e5_80 (fr : Fr) (st : St) : runI cfg 5 n5_80 fr st = some (.normal, fr, st) := run_skip (by kernel_rfl)
@[simp] theorem e5_81 (fr : Fr) (st : St) : runI cfg 5 n5_81 fr st = some (.exit 6, fr, st) := run_exit (by kernel_rfl)
@[simp] theorem e5_82 (fr : Fr) (st : St) : runI cfg 5 n5_82 fr st = thenR cfg 5 n5_87 (runI cfg 5 n5_83 fr st) := run_seq (by kernel_rfl)
@[simp] theorem e5_83 (fr : Fr) (st : St) : runI cfg 5 n5_83 fr st = blockI 7 (runI cfg 5 n5_84 fr st) := run_block (by kernel_rfl)
@[simp] theorem e5_84 (fr : Fr) (st : St) : runI cfg 5 n5_84 fr st = thenR cfg 5 n5_86 (runI cfg 5 n5_85 fr st) := run_seq (by kernel_rfl)
@[simp] theorem e5_85 (fr : Fr) (st : St) : runI cfg 5 n5_85 fr st = ob (lookF fr 1) fun x1 => ob (lookF fr 7) fun x7 => ob (lookF fr 8) fun x8 => ob (lookF fr 11) fun x11 => ob (lookF fr 15) fun x15 => ob (lookF fr 74) fun x74 => ob (lookF fr 75) fun x75 => (some (.normal, [(1, x1), (7, x7), (8, x8), (11, x11), (15, x15), (17, x75), (74, x74), (75, x75)], st) : Res) :=
  (runI_reg (c := n5_85) (id := 24) (ops := opsOf n5_85) (draw := false) (by kernel_rfl)).trans (by kernel_rfl)
@[simp] theorem e5_86 (fr : Fr) (st : St) : runI cfg 5 n5_86 fr st = ob (lookF fr 1) fun x1 => ob (lookF fr 7) fun x7 => ob (lookF fr 8) fun x8 => ob (lookF fr 11) fun x11 => ob (lookF fr 15) fun x15 => ob (lookF fr 17) fun x17 => ob (lookF fr 74) fun x74 => ob (lookF fr 75) fun x75 => ob (ixV 1 x15 x17) fun x80 => ob (loadV 1 false st.H x80) fun x81 => ob (binV cfg.P (opAt n5_86 4) .add 5 (.int .u8) x81 (.d (.int .u8 1))) fun x82 => ob (ixV 1 x15 x17) fun x83 => ob (storeV 1 st.H x83 x82) fun h6 => (some (.normal, [(1, x1), (7, x7), (8, x8), (11, x11), (15, x15), (74, x74), (75, x75)], ⟨h6, st.E⟩) : Res) :=
  (runI_reg (c := n5_86) (id := 25) (ops := opsOf n5_86) (draw := false) (by kernel_rfl)).trans (by kernel_rfl)
@[simp] theorem e5_87 (fr : Fr) (st : St) : runI cfg 5 n5_87 fr st = ob (lookF fr 1) fun x1 => ob (lookF fr 7) fun x7 => ob (lookF fr 8) fun x8 => ob (lookF fr 11) fun x11 => ob (lookF fr 15) fun x15 => ob (lookF fr 74) fun x74 => ob (lookF fr 75) fun x75 => ob (binV cfg.P (opAt n5_87 0) .add 3 (.int .i64) x75 (.d (.int .i64 1))) fun x84 => (some (.normal, [(1, x1), (7, x7), (8, x8), (11, x11), (15, x15), (74, x74), (75, x84)], st) : Res) :=
  (runI_reg (c := n5_87) (id := 26) (ops := opsOf n5_87) (draw := false) (by kernel_rfl)).trans (by kernel_rfl)
@[simp] theorem e5_88 (fr : Fr) (st : St) : runI cfg 5 n5_88 fr st = thenR cfg 5 n5_90 (runI cfg 5 n5_89 fr st) := run_seq (by kernel_rfl)
@[simp] theorem e5_89 (fr : Fr) (st : St) : runI cfg 5 n5_89 fr st = ob (lookF fr 1) fun x1 => ob (lookF fr 7) fun x7 => ob (lookF fr 8) fun x8 => ob (lookF fr 11) fun x11 => ob (callI cfg 17 [x7] st) fun r1 => ob (exV 0 r1.1) fun x88 => ob (exV 1 r1.1) fun x89 => ob (exV 2 r1.1) fun x90 => (some (.normal, [(1, x1), (7, x7), (8, x8), (11, x11), (19, x89), (20, x90)], r1.2) : Res) :=
  (runI_reg (c := n5_89) (id := 27) (ops := opsOf n5_89) (draw := false) (by kernel_rfl)).trans (by kernel_rfl)
@[simp] theorem e5_90 (fr : Fr) (st : St) : runI cfg 5 n5_90 fr st = thenR cfg 5 n5_92 (runI cfg 5 n5_91 fr st) := run_seq (by kernel_rfl)
@[simp] theorem e5_91 (fr : Fr) (st : St) : runI cfg 5 n5_91 fr st = ob (lookF fr 1) fun x1 => ob (lookF fr 7) fun x7 => ob (lookF fr 8) fun x8 => ob (lookF fr 11) fun x11 => ob (lookF fr 19) fun x19 => ob (lookF fr 20) fun x20 => gC x11 (none) (gC x20 (none) (ob (convV cfg.P (opAt n5_91 6) false (some (.slice 5)) (some .string) (some (.int .u8)) none x7) fun x97 => ob (binV cfg.P (opAt n5_91 8) .eql 9 .string x97 x8) fun x99 => gC x99 (none) (ob (callI cfg 19 [x19, x1] st) fun r13 => gC r13.1 (none) (ob (callI cfg 20 [] r13.2) fun r16 => (some (.normal, [(4, r16.1)], r16.2) : Res)) ((some (.normal, [(4, ff)], r13.2) : Res))) ((some (.normal, [(4, ff)], st) : Res))) ((some (.normal, [(4, ff)], st) : Res))) ((some (.normal, [(4, ff)], st) : Res)) :=
  (runI_reg (c := n5_91) (id := 28) (ops := opsOf n5_91) (draw := false) (by kernel_rfl)).trans (by kernel_rfl)
@[simp] theorem e5_92 (fr : Fr) (st : St) : runI cfg 5 n5_92 fr st = some (.ret, fr, st) := run_ret (by kernel_rfl)
@[simp] theorem z5 (fr : Fr) (st : St) : endR cfg Try.f5 (some (.ret, fr, st)) = ob (lookF fr 4) fun x0 => some (x0, st) := end_r.trans (by kernel_rfl)
@[simp] theorem w5 (fr : Fr) (st : St) : endR cfg Try.f5 (some (.normal, fr, st)) = ob (lookF fr 4) fun x0 => some (x0, st) := end_n.trans (by kernel_rfl)
theorem c5 (ts : List T) (st : St) : callI cfg 5 ts st = ob (closeAll ts) fun ts => backR st (endR cfg Try.f5 (runI cfg 5 n5_0 (enumF 0 ts) ⟨[], []⟩)) := call_pure (by kernel_rfl) (by kernel_rfl) (by kernel_rfl) (by kernel_rfl)
/-! 6: fettle.fettlelaw10.PrntTells -/
noncomputable def n6_0 : Code := codeB Try.f6
noncomputable def n6_1 : Code := kid n6_0 false
noncomputable def n6_2 : Code := kid n6_0 true
noncomputable def n6_3 : Code := kid n6_2 false
noncomputable def n6_4 : Code := kid n6_3 false
noncomputable def n6_5 : Code := kid n6_3 true
noncomputable def n6_6 : Code := kid n6_5 false
noncomputable def n6_7 : Code := kid n6_6 false
noncomputable def n6_8 : Code := kid n6_6 true
noncomputable def n6_9 : Code := kid n6_5 true
noncomputable def n6_10 : Code := kid n6_2 true
noncomputable def n6_11 : Code := kid n6_10 false
noncomputable def n6_12 : Code := kid n6_11 false
noncomputable def n6_13 : Code := kid n6_11 true
noncomputable def n6_14 : Code := kid n6_13 false
noncomputable def n6_15 : Code := kid n6_14 false
noncomputable def n6_16 : Code := kid n6_15 false
noncomputable def n6_17 : Code := kid n6_15 true
noncomputable def n6_18 : Code := kid n6_17 false
noncomputable def n6_19 : Code := kid n6_18 false
noncomputable def n6_20 : Code := kid n6_18 true
noncomputable def n6_21 : Code := kid n6_17 true
noncomputable def n6_22 : Code := kid n6_21 false
noncomputable def n6_23 : Code := kid n6_22 false
noncomputable def n6_24 : Code := kid n6_23 false
noncomputable def n6_25 : Code := kid n6_23 true
noncomputable def n6_26 : Code := kid n6_25 false
noncomputable def n6_27 : Code := kid n6_25 true
noncomputable def n6_28 : Code := kid n6_27 false
noncomputable def n6_29 : Code := kid n6_28 false
noncomputable def n6_30 : Code := kid n6_28 true
noncomputable def n6_31 : Code := kid n6_27 true
noncomputable def n6_32 : Code := kid n6_21 true
noncomputable def n6_33 : Code := kid n6_10 true
noncomputable def n6_34 : Code := kid n6_33 false
noncomputable def n6_35 : Code := kid n6_34 false
noncomputable def n6_36 : Code := kid n6_34 true
noncomputable def n6_37 : Code := kid n6_36 false
noncomputable def n6_38 : Code := kid n6_37 false
noncomputable def n6_39 : Code := kid n6_38 false
noncomputable def n6_40 : Code := kid n6_38 true
noncomputable def n6_41 : Code := kid n6_40 false
noncomputable def n6_42 : Code := kid n6_41 false
noncomputable def n6_43 : Code := kid n6_41 true
noncomputable def n6_44 : Code := kid n6_40 true
noncomputable def n6_45 : Code := kid n6_44 false
noncomputable def n6_46 : Code := kid n6_45 false
noncomputable def n6_47 : Code := kid n6_46 false
noncomputable def n6_48 : Code := kid n6_46 true
noncomputable def n6_49 : Code := kid n6_48 false
noncomputable def n6_50 : Code := kid n6_48 true
noncomputable def n6_51 : Code := kid n6_50 false
noncomputable def n6_52 : Code := kid n6_51 false
noncomputable def n6_53 : Code := kid n6_51 true
noncomputable def n6_54 : Code := kid n6_50 true
noncomputable def n6_55 : Code := kid n6_44 true
noncomputable def n6_56 : Code := kid n6_33 true
noncomputable def n6_57 : Code := kid n6_56 false
noncomputable def n6_58 : Code := kid n6_56 true
noncomputable def n6_59 : Code := kid n6_58 false
noncomputable def n6_60 : Code := kid n6_59 false
noncomputable def n6_61 : Code := kid n6_59 true
noncomputable def n6_62 : Code := kid n6_61 false
noncomputable def n6_63 : Code := kid n6_62 false
noncomputable def n6_64 : Code := kid n6_62 true
noncomputable def n6_65 : Code := kid n6_61 true
noncomputable def n6_66 : Code := kid n6_58 true
noncomputable def n6_67 : Code := kid n6_66 false
noncomputable def n6_68 : Code := kid n6_66 true
noncomputable def n6_69 : Code := kid n6_68 false
noncomputable def n6_70 : Code := kid n6_68 true
noncomputable def n6_71 : Code := kid n6_70 false
noncomputable def n6_72 : Code := kid n6_70 true
noncomputable def n6_73 : Code := kid n6_72 false
noncomputable def n6_74 : Code := kid n6_73 false
noncomputable def n6_75 : Code := kid n6_73 true
noncomputable def n6_76 : Code := kid n6_75 false
noncomputable def n6_77 : Code := kid n6_76 false
noncomputable def n6_78 : Code := kid n6_77 false
noncomputable def n6_79 : Code := kid n6_77 true
noncomputable def n6_80 : Code := kid n6_79 false
noncomputable def n6_81 : Code := kid n6_80 false
noncomputable def n6_82 : Code := kid n6_80 true
noncomputable def n6_83 : Code := kid n6_79 true
noncomputable def n6_84 : Code := kid n6_83 false
noncomputable def n6_85 : Code := kid n6_84 false
noncomputable def n6_86 : Code := kid n6_85 false
noncomputable def n6_87 : Code := kid n6_85 true
noncomputable def n6_88 : Code := kid n6_87 false
noncomputable def n6_89 : Code := kid n6_87 true
noncomputable def n6_90 : Code := kid n6_89 false
noncomputable def n6_91 : Code := kid n6_89 true
noncomputable def n6_92 : Code := kid n6_91 false
noncomputable def n6_93 : Code := kid n6_91 true
noncomputable def n6_94 : Code := kid n6_93 false
noncomputable def n6_95 : Code := kid n6_93 true
noncomputable def n6_96 : Code := kid n6_95 false
noncomputable def n6_97 : Code := kid n6_95 true
noncomputable def n6_98 : Code := kid n6_97 false
noncomputable def n6_99 : Code := kid n6_98 false
noncomputable def n6_100 : Code := kid n6_98 true
noncomputable def n6_101 : Code := kid n6_97 true
noncomputable def n6_102 : Code := kid n6_83 true
noncomputable def n6_103 : Code := kid n6_72 true
noncomputable def n6_104 : Code := kid n6_103 false
noncomputable def n6_105 : Code := kid n6_103 true
@[simp] theorem e6_0 (fr : Fr) (st : St) : runI cfg 6 n6_0 fr st = thenR cfg 6 n6_2 (runI cfg 6 n6_1 fr st) := run_seq (by kernel_rfl)
@[simp] theorem e6_1 (fr : Fr) (st : St) : runI cfg 6 n6_1 fr st = ob (lookF fr 0) fun x0 => ob (lookF fr 1) fun x1 => ob (lookF fr 2) fun x2 => ob (lookF fr 3) fun x3 => ob (lookF fr 4) fun x4 => ob (lookF fr 5) fun x5 => (some (.normal, [(0, x0), (1, x1), (2, x2), (3, x3), (4, x4), (5, x5)], st) : Res) :=
  (runI_reg (c := n6_1) (id := 0) (ops := opsOf n6_1) (draw := false) (by kernel_rfl)).trans (by kernel_rfl)
@[simp] theorem e6_2 (fr : Fr) (st : St) : runI cfg 6 n6_2 fr st = thenR cfg 6 n6_10 (runI cfg 6 n6_3 fr st) := run_seq (by kernel_rfl)
@[simp] theorem e6_3 (fr : Fr) (st : St) : runI cfg 6 n6_3 fr st = thenR cfg 6 n6_5 (runI cfg 6 n6_4 fr st) := run_seq (by kernel_rfl)
@[simp] theorem e6_4 (fr : Fr) (st : St) : runI cfg 6 n6_4 fr st = ob (lookF fr 0) fun x0 => ob (lookF fr 1) fun x1 => ob (lookF fr 2) fun x2 => ob (lookF fr 3) fun x3 => ob (lookF fr 4) fun x4 => ob (lookF fr 5) fun x5 => ob (lenV (.slice 47) st.H x0) fun x31 => ob (binV cfg.P (opAt n6_4 2) .gtr 3 (.int .i64) x31 (.d (.int .i64 12))) fun x32 => gC x32 (none) ((some (.normal, [(0, x0), (1, x1), (2, x2), (3, x3), (4, x4), (5, x5), (42, tt)], st) : Res)) (ob (lenV (.slice 31) st.H x2) fun x35 => ob (binV cfg.P (opAt n6_4 6) .gtr 3 (.int .i64) x35 (.d (.int .i64 9))) fun x36 => gC x36 (none) ((some (.normal, [(0, x0), (1, x1), (2, x2), (3, x3), (4, x4), (5, x5), (42, tt)], st) : Res)) (ob (lenV (.slice 5) st.H x3) fun x40 => ob (binV cfg.P (opAt n6_4 11) .gtr 3 (.int .i64) x40 (.d (.int .i64 300))) fun x41 => (some (.normal, [(0, x0), (1, x1), (2, x2), (3, x3), (4, x4), (5, x5), (42, x41)], st) : Res))) :=
  (runI_reg (c := n6_4) (id := 1) (ops := opsOf n6_4) (draw := false) (by kernel_rfl)).trans (by kernel_rfl)
@[simp] theorem e6_5 (fr : Fr) (st : St) : runI cfg 6 n6_5 fr st = ob (lookF fr 42) fun v => gC v none (runI cfg 6 n6_6 fr st) (runI cfg 6 n6_9 fr st) := run_cond (x := .tmp 42) (by kernel_rfl)
@[simp] theorem e6_6 (fr : Fr) (st : St) : runI cfg 6 n6_6 fr st = thenR cfg 6 n6_8 (runI cfg 6 n6_7 fr st) := run_seq (by kernel_rfl)
@[simp] theorem e6_7 (fr : Fr) (st : St) : runI cfg 6 n6_7 fr st = ob (callI cfg 20 [] st) fun r0 => (some (.normal, [(12, r0.1)], r0.2) : Res) :=
  (runI_reg (c := n6_7) (id := 2) (ops := opsOf n6_7) (draw := false) (by kernel_rfl)).trans (by kernel_rfl)
@[simp] theorem e6_8 (fr : Fr) (st : St) : runI cfg 6 n6_8 fr st = some (.ret, fr, st) := run_ret (by kernel_rfl)
@[simp] theorem e6_9 (fr : Fr) (st : St) : runI cfg 6 n6_9 fr st = some (.normal, fr, st) := run_skip (by kernel_rfl)
@[simp] theorem e6_10 (fr : Fr) (st : St) : runI cfg 6 n6_10 fr st = thenR cfg 6 n6_33 (runI cfg 6 n6_11 fr st) := run_seq (by kernel_rfl)
@[simp] theorem e6_11 (fr : Fr) (st : St) : runI cfg 6 n6_11 fr st = thenR cfg 6 n6_13 (runI cfg 6 n6_12 fr st) := run_seq (by kernel_rfl)
@[simp] theorem e6_12 (fr : Fr) (st : St) : runI cfg 6 n6_12 fr st = ob (lookF fr 0) fun x0 => ob (lookF fr 1) fun x1 => ob (lookF fr 2) fun x2 => ob (lookF fr 3) fun x3 => ob (lookF fr 4) fun x4 => ob (lookF fr 5) fun x5 => ob (lenV (.slice 47) st.H x0) fun x45 => (some (.normal, [(0, x0), (1, x1), (2, x2), (3, x3), (4, x4), (5, x5), (45, x45), (46, (.d (.int .i64 0)))], st) : Res) :=
  (runI_reg (c := n6_12) (id := 3) (ops := opsOf n6_12) (draw := false) (by kernel_rfl)).trans (by kernel_rfl)
@[simp] theorem e6_13 (fr : Fr) (st : St) : runI cfg 6 n6_13 fr st = blockI 0 (runI cfg 6 n6_14 fr st) := run_block (by kernel_rfl)
theorem l6_14 (fr : Fr) (st : St) : runI cfg 6 n6_14 fr st = loopR cfg 6 n6_14 st.H.length (runI cfg 6 n6_15 fr st) := run_loop (by kernel_rfl)
@[simp] theorem e6_15 (fr : Fr) (st : St) : runI cfg 6 n6_15 fr st = thenR cfg 6 n6_17 (runI cfg 6 n6_16 fr st) := run_seq (by kernel_rfl)
@[simp] theorem e6_16 (fr : Fr) (st : St) : runI cfg 6 n6_16 fr st = ob (lookF fr 0) fun x0 => ob (lookF fr 1) fun x1 => ob (lookF fr 2) fun x2 => ob (lookF fr 3) fun x3 => ob (lookF fr 4) fun x4 => ob (lookF fr 5) fun x5 => ob (lookF fr 45) fun x45 => ob (lookF fr 46) fun x46 => ob (binV cfg.P (opAt n6_16 0) .lss 3 (.int .i64) x46 x45) fun x47 => (some (.normal, [(0, x0), (1, x1), (2, x2), (3, x3), (4, x4), (5, x5), (45, x45), (46, x46), (47, x47)], st) : Res) :=
  (runI_reg (c := n6_16) (id := 4) (ops := opsOf n6_16) (draw := false) (by kernel_rfl)).trans (by kernel_rfl)
@[simp] theorem e6_17 (fr : Fr) (st : St) : runI cfg 6 n6_17 fr st = thenR cfg 6 n6_21 (runI cfg 6 n6_18 fr st) := run_seq (by kernel_rfl)
@[simp] theorem e6_18 (fr : Fr) (st : St) : runI cfg 6 n6_18 fr st = ob (lookF fr 47) fun v => gC v none (runI cfg 6 n6_19 fr st) (runI cfg 6 n6_20 fr st) := run_cond (x := .tmp 47) (by kernel_rfl)
@[simp] theorem e6_19 (fr : Fr) (st : St) : runI cfg 6 n6_19 fr st = some (.normal, fr, st) := run_skip (by kernel_rfl)
@[simp] theorem e6_20 (fr : Fr) (st : St) : runI cfg 6 n6_20 fr st = some (.exit 0, fr, st) := run_exit (by kernel_rfl)
@[simp] theorem e6_21 (fr : Fr) (st : St) : runI cfg 6 n6_21 fr st = thenR cfg 6 n6_32 (runI cfg 6 n6_22 fr st) := run_seq (by kernel_rfl)
@[simp] theorem e6_22 (fr : Fr) (st : St) : runI cfg 6 n6_22 fr st = blockI 1 (runI cfg 6 n6_23 fr st) := run_block (by kernel_rfl)
@[simp] theorem e6_23 (fr : Fr) (st : St) : runI cfg 6 n6_23 fr st = thenR cfg 6 n6_25 (runI cfg 6 n6_24 fr st) := run_seq (by kernel_rfl)
@[simp] theorem e6_24 (fr : Fr) (st : St) : runI cfg 6 n6_24 fr st = ob (lookF fr 0) fun x0 => ob (lookF fr 1) fun x1 => ob (lookF fr 2) fun x2 => ob (lookF fr 3) fun x3 => ob (lookF fr 4) fun x4 => ob (lookF fr 5) fun x5 => ob (lookF fr 45) fun x45 => ob (lookF fr 46) fun x46 => (some (.normal, [(0, x0), (1, x1), (2, x2), (3, x3), (4, x4), (5, x5), (13, x46), (45, x45), (46, x46)], st) : Res) :=
  (runI_reg (c := n6_24) (id := 5) (ops := opsOf n6_24) (draw := false) (by kernel_rfl)).trans (by kernel_rfl)
@[simp] theorem e6_25 (fr : Fr) (st : St) : runI cfg 6 n6_25 fr st = thenR cfg 6 n6_27 (runI cfg 6 n6_26 fr st) := run_seq (by kernel_rfl)
@[simp] theorem e6_26 (fr : Fr) (st : St) : runI cfg 6 n6_26 fr st = ob (lookF fr 0) fun x0 => ob (lookF fr 1) fun x1 => ob (lookF fr 2) fun x2 => ob (lookF fr 3) fun x3 => ob (lookF fr 4) fun x4 => ob (lookF fr 5) fun x5 => ob (lookF fr 13) fun x13 => ob (lookF fr 45) fun x45 => ob (lookF fr 46) fun x46 => ob (ixV 3 x0 x13) fun x51 => ob (addrV 2 x51) fun x52 => ob (loadV 1 false st.H x52) fun x53 => ob (lenV .string st.H x53) fun x54 => ob (binV cfg.P (opAt n6_26 6) .gtr 3 (.int .i64) x54 (.d (.int .i64 100))) fun x55 => (some (.normal, [(0, x0), (1, x1), (2, x2), (3, x3), (4, x4), (5, x5), (45, x45), (46, x46), (55, x55)], st) : Res) :=
  (runI_reg (c := n6_26) (id := 6) (ops := opsOf n6_26) (draw := false) (by kernel_rfl)).trans (by kernel_rfl)
@[simp] theorem e6_27 (fr : Fr) (st : St) : runI cfg 6 n6_27 fr st = ob (lookF fr 55) fun v => gC v none (runI cfg 6 n6_28 fr st) (runI cfg 6 n6_31 fr st) := run_cond (x := .tmp 55) (by kernel_rfl)
@[simp] theorem e6_28 (fr : Fr) (st : St) : runI cfg 6 n6_28 fr st = thenR cfg 6 n6_30 (runI cfg 6 n6_29 fr st) := run_seq (by kernel_rfl)
@[simp] theorem e6_29 (fr : Fr) (st : St) : runI cfg 6 n6_29 fr st = ob (callI cfg 20 [] st) fun r0 => (some (.normal, [(12, r0.1)], r0.2) : Res) :=
  (runI_reg (c := n6_29) (id := 7) (ops := opsOf n6_29) (draw := false) (by kernel_rfl)).trans (by kernel_rfl)
@[simp] theorem e6_30 (fr : Fr) (st : St) : runI cfg 6 n6_30 fr st = some (.ret, fr, st) := run_ret (by kernel_rfl)
@[simp] theorem e6_31 (fr : Fr) (st : St) : runI cfg 6 n6_31 fr st = some (.normal, fr, st) := run_skip (by kernel_rfl)
@[simp] theorem e6_32 (fr : Fr) (st : St) : runI cfg 6 n6_32 fr st = ob (lookF fr 0) fun x0 => ob (lookF fr 1) fun x1 => ob (lookF fr 2) fun x2 => ob (lookF fr 3) fun x3 => ob (lookF fr 4) fun x4 => ob (lookF fr 5) fun x5 => ob (lookF fr 45) fun x45 => ob (lookF fr 46) fun x46 => ob (binV cfg.P (opAt n6_32 0) .add 3 (.int .i64) x46 (.d (.int .i64 1))) fun x57 => (some (.normal, [(0, x0), (1, x1), (2, x2), (3, x3), (4, x4), (5, x5), (45, x45), (46, x57)], st) : Res) :=
  (runI_reg (c := n6_32) (id := 8) (ops := opsOf n6_32) (draw := false) (by kernel_rfl)).trans (by kernel_rfl)
@[simp] theorem e6_33 (fr : Fr) (st : St) : runI cfg 6 n6_33 fr st = thenR cfg 6 n6_56 (runI cfg 6 n6_34 fr st) := run_seq (by kernel_rfl)
@[simp] theorem e6_34 (fr : Fr) (st : St) : runI cfg 6 n6_34 fr st = thenR cfg 6 n6_36 (runI cfg 6 n6_35 fr st) := run_seq (by kernel_rfl)
@[simp] theorem e6_35 (fr : Fr) (st : St) : runI cfg 6 n6_35 fr st = ob (lookF fr 0) fun x0 => ob (lookF fr 1) fun x1 => ob (lookF fr 2) fun x2 => ob (lookF fr 3) fun x3 => ob (lookF fr 4) fun x4 => ob (lookF fr 5) fun x5 => ob (lenV (.slice 31) st.H x2) fun x59 => (some (.normal, [(0, x0), (1, x1), (2, x2), (3, x3), (4, x4), (5, x5), (59, x59), (60, (.d (.int .i64 0)))], st) : Res) :=
  (runI_reg (c := n6_35) (id := 9) (ops := opsOf n6_35) (draw := false) (by kernel_rfl)).trans (by kernel_rfl)
@[simp] theorem e6_36 (fr : Fr) (st : St) : runI cfg 6 n6_36 fr st = blockI 2 (runI cfg 6 n6_37 fr st) := run_block (by kernel_rfl)
theorem l6_37 (fr : Fr) (st : St) : runI cfg 6 n6_37 fr st = loopR cfg 6 n6_37 st.H.length (runI cfg 6 n6_38 fr st) := run_loop (by kernel_rfl)
@[simp] theorem e6_38 (fr : Fr) (st : St) : runI cfg 6 n6_38 fr st = thenR cfg 6 n6_40 (runI cfg 6 n6_39 fr st) := run_seq (by kernel_rfl)
@[simp] theorem e6_39 (fr : Fr) (st : St) : runI cfg 6 n6_39 fr st = ob (lookF fr 0) fun x0 => ob (lookF fr 1) fun x1 => ob (lookF fr 2) fun x2 => ob (lookF fr 3) fun x3 => ob (lookF fr 4) fun x4 => ob (lookF fr 5) fun x5 => ob (lookF fr 59) fun x59 => ob (lookF fr 60) fun x60 => ob (binV cfg.P (opAt n6_39 0) .lss 3 (.int .i64) x60 x59) fun x61 => (some (.normal, [(0, x0), (1, x1), (2, x2), (3, x3), (4, x4), (5, x5), (59, x59), (60, x60), (61, x61)], st) : Res) :=
  (runI_reg (c := n6_39) (id := 10) (ops := opsOf n6_39) (draw := false) (by kernel_rfl)).trans (by kernel_rfl)
@[simp] theorem e6_40 (fr : Fr) (st : St) : runI cfg 6 n6_40 fr st = thenR cfg 6 n6_44 (runI cfg 6 n6_41 fr st) := run_seq (by kernel_rfl)
@[simp] theorem e6_41 (fr : Fr) (st : St) : runI cfg 6 n6_41 fr st = ob (lookF fr 61) fun v => gC v none (runI cfg 6 n6_42 fr st) (runI cfg 6 n6_43 fr st) := run_cond (x := .tmp 61) (by kernel_rfl)
@[simp] theorem e6_42 (fr : Fr) (st : St) : runI cfg 6 n6_42 fr st = some (.normal, fr, st) := run_skip (by kernel_rfl)
@[simp] theorem e6_43 (fr : Fr) (st : St) : runI cfg 6 n6_43 fr st = some (.exit 2, fr, st) := run_exit (by kernel_rfl)
@[simp] theorem e6_44 (fr : Fr) (st : St) : runI cfg 6 n6_44 fr st = thenR cfg 6 n6_55 (runI cfg 6 n6_45 fr st) := run_seq (by kernel_rfl)
@[simp] theorem e6_45 (fr : Fr) (st : St) : runI cfg 6 n6_45 fr st = blockI 3 (runI cfg 6 n6_46 fr st) := run_block (by kernel_rfl)
@[simp] theorem e6_46 (fr : Fr) (st : St) : runI cfg 6 n6_46 fr st = thenR cfg 6 n6_48 (runI cfg 6 n6_47 fr st) := run_seq (by kernel_rfl)
@[simp] theorem e6_47 (fr : Fr) (st : St) : runI cfg 6 n6_47 fr st = ob (lookF fr 0) fun x0 => ob (lookF fr 1) fun x1 => ob (lookF fr 2) fun x2 => ob (lookF fr 3) fun x3 => ob (lookF fr 4) fun x4 => ob (lookF fr 5) fun x5 => ob (lookF fr 59) fun x59 => ob (lookF fr 60) fun x60 => (some (.normal, [(0, x0), (1, x1), (2, x2), (3, x3), (4, x4), (5, x5), (14, x60), (59, x59), (60, x60)], st) : Res) :=
  (runI_reg (c := n6_47) (id := 11) (ops := opsOf n6_47) (draw := false) (by kernel_rfl)).trans (by kernel_rfl)
@[simp] theorem e6_48 (fr : Fr) (st : St) : runI cfg 6 n6_48 fr st = thenR cfg 6 n6_50 (runI cfg 6 n6_49 fr st) := run_seq (by kernel_rfl)
@[simp] theorem e6_49 (fr : Fr) (st : St) : runI cfg 6 n6_49 fr st = ob (lookF fr 0) fun x0 => ob (lookF fr 1) fun x1 => ob (lookF fr 2) fun x2 => ob (lookF fr 3) fun x3 => ob (lookF fr 4) fun x4 => ob (lookF fr 5) fun x5 => ob (lookF fr 14) fun x14 => ob (lookF fr 59) fun x59 => ob (lookF fr 60) fun x60 => ob (ixV 1 x2 x14) fun x65 => ob (loadV 1 false st.H x65) fun x66 => ob (lenV (.slice 5) st.H x66) fun x67 => ob (binV cfg.P (opAt n6_49 5) .gtr 3 (.int .i64) x67 (.d (.int .i64 280))) fun x68 => (some (.normal, [(0, x0), (1, x1), (2, x2), (3, x3), (4, x4), (5, x5), (59, x59), (60, x60), (68, x68)], st) : Res) :=
  (runI_reg (c := n6_49) (id := 12) (ops := opsOf n6_49) (draw := false) (by kernel_rfl)).trans (by kernel_rfl)
@[simp] theorem e6_50 (fr : Fr) (st : St) : runI cfg 6 n6_50 fr st = ob (lookF fr 68) fun v => gC v none (runI cfg 6 n6_51 fr st) (runI cfg 6 n6_54 fr st) := run_cond (x := .tmp 68) (by kernel_rfl)
@[simp] theorem e6_51 (fr : Fr) (st : St) : runI cfg 6 n6_51 fr st = thenR cfg 6 n6_53 (runI cfg 6 n6_52 fr st) := run_seq (by kernel_rfl)
@[simp] theorem e6_52 (fr : Fr) (st : St) : runI cfg 6 n6_52 fr st = ob (callI cfg 20 [] st) fun r0 => (some (.normal, [(12, r0.1)], r0.2) : Res) :=
  (runI_reg (c := n6_52) (id := 13) (ops := opsOf n6_52) (draw := false) (by kernel_rfl)).trans (by kernel_rfl)
@[simp] theorem e6_53 (fr : Fr) (st : St) : runI cfg 6 n6_53 fr st = some (.ret, fr, st) := run_ret (by kernel_rfl)
@[simp] theorem e6_54 (fr : Fr) (st : St) : runI cfg 6 n6_54 fr st = some (.normal, fr, st) := run_skip (by kernel_rfl)
@[simp] theorem e6_55 (fr : Fr) (st : St) : runI cfg 6 n6_55 fr st = ob (lookF fr 0) fun x0 => ob (lookF fr 1) fun x1 => ob (lookF fr 2) fun x2 => ob (lookF fr 3) fun x3 => ob (lookF fr 4) fun x4 => ob (lookF fr 5) fun x5 => ob (lookF fr 59) fun x59 => ob (lookF fr 60) fun x60 => ob (binV cfg.P (opAt n6_55 0) .add 3 (.int .i64) x60 (.d (.int .i64 1))) fun x70 => (some (.normal, [(0, x0), (1, x1), (2, x2), (3, x3), (4, x4), (5, x5), (59, x59), (60, x70)], st) : Res) :=
  (runI_reg (c := n6_55) (id := 14) (ops := opsOf n6_55) (draw := false) (by kernel_rfl)).trans (by kernel_rfl)
@[simp] theorem e6_56 (fr : Fr) (st : St) : runI cfg 6 n6_56 fr st = thenR cfg 6 n6_58 (runI cfg 6 n6_57 fr st) := run_seq (by kernel_rfl)
@[simp] theorem e6_57 (fr : Fr) (st : St) : runI cfg 6 n6_57 fr st = ob (lookF fr 0) fun x0 => ob (lookF fr 1) fun x1 => ob (lookF fr 2) fun x2 => ob (lookF fr 3) fun x3 => ob (lookF fr 4) fun x4 => ob (lookF fr 5) fun x5 => ob (callI cfg 21 [x1] st) fun r1 => ob (callI cfg 22 [r1.1, x2] r1.2) fun r3 => (some (.normal, [(0, x0), (1, x1), (2, x2), (3, x3), (4, x4), (5, x5), (15, r3.1)], r3.2) : Res) :=
  (runI_reg (c := n6_57) (id := 15) (ops := opsOf n6_57) (draw := false) (by kernel_rfl)).trans (by kernel_rfl)
@[simp] theorem e6_58 (fr : Fr) (st : St) : runI cfg 6 n6_58 fr st = thenR cfg 6 n6_66 (runI cfg 6 n6_59 fr st) := run_seq (by kernel_rfl)
@[simp] theorem e6_59 (fr : Fr) (st : St) : runI cfg 6 n6_59 fr st = thenR cfg 6 n6_61 (runI cfg 6 n6_60 fr st) := run_seq (by kernel_rfl)
@[simp] theorem e6_60 (fr : Fr) (st : St) : runI cfg 6 n6_60 fr st = ob (lookF fr 0) fun x0 => ob (lookF fr 1) fun x1 => ob (lookF fr 2) fun x2 => ob (lookF fr 3) fun x3 => ob (lookF fr 4) fun x4 => ob (lookF fr 5) fun x5 => ob (lookF fr 15) fun x15 => ob (callI cfg 21 [x1] st) fun r1 => ob (callI cfg 16 [r1.1, x2] r1.2) fun r3 => ob (convV cfg.P (opAt n6_60 4) false (some (.slice 5)) (some .string) (some (.int .u8)) none r3.1) fun x79 => ob (convV cfg.P (opAt n6_60 6) false (some (.slice 5)) (some .string) (some (.int .u8)) none x15) fun x81 => ob (binV cfg.P (opAt n6_60 7) .neq 9 .string x79 x81) fun x82 => gC x82 (none) ((some (.normal, [(0, x0), (2, x2), (3, x3), (4, x4), (5, x5), (15, x15), (93, tt)], r3.2) : Res)) (ob (callI cfg 16 [x0, x2] r3.2) fun r11 => ob (convV cfg.P (opAt n6_60 12) false (some (.slice 5)) (some .string) (some (.int .u8)) none r11.1) fun x87 => ob (callI cfg 22 [x0, x2] r11.2) fun r15 => ob (convV cfg.P (opAt n6_60 16) false (some (.slice 5)) (some .string) (some (.int .u8)) none r15.1) fun x91 => ob (binV cfg.P (opAt n6_60 17) .neq 9 .string x87 x91) fun x92 => (some (.normal, [(0, x0), (2, x2), (3, x3), (4, x4), (5, x5), (15, x15), (93, x92)], r15.2) : Res)) :=
  (runI_reg (c := n6_60) (id := 16) (ops := opsOf n6_60) (draw := true) (by kernel_rfl)).trans (by kernel_rfl)
@[simp] theorem e6_61 (fr : Fr) (st : St) : runI cfg 6 n6_61 fr st = ob (lookF fr 93) fun v => gC v none (runI cfg 6 n6_62 fr st) (runI cfg 6 n6_65 fr st) := run_cond (x := .tmp 93) (by kernel_rfl)
@[simp] theorem e6_62 (fr : Fr) (st : St) : runI cfg 6 n6_62 fr st = thenR cfg 6 n6_64 (runI cfg 6 n6_63 fr st) := run_seq (by kernel_rfl)
@[simp] theorem e6_63 (fr : Fr) (st : St) : runI cfg 6 n6_63 fr st = (some (.normal, [(12, ff)], st) : Res) :=
  (runI_reg (c := n6_63) (id := 17) (ops := opsOf n6_63) (draw := false) (by kernel_rfl)).trans (by kernel_rfl)
@[simp] theorem e6_64 (fr : Fr) (st : St) : runI cfg 6 n6_64 fr st = some (.ret, fr, st) := run_ret (by kernel_rfl)
@[simp] theorem e6_65 (fr : Fr) (st : St) : runI cfg 6 n6_65 fr st = some (.normal, fr, st) := run_skip (by kernel_rfl)
@[simp] theorem e6_66 (fr : Fr) (st : St) : runI cfg 6 n6_66 fr st = thenR cfg 6 n6_68 (runI cfg 6 n6_67 fr st) := run_seq (by kernel_rfl)
@[simp] theorem e6_67 (fr : Fr) (st : St) : runI cfg 6 n6_67 fr st = ob (lookF fr 0) fun x0 => ob (lookF fr 2) fun x2 => ob (lookF fr 3) fun x3 => ob (lookF fr 4) fun x4 => ob (lookF fr 5) fun x5 => ob (lookF fr 15) fun x15 => ob (fillA 1 (repeatL [(.d (.int .u8 0))] 0) []) fun c0 => ob (T.toDs c0) fun d0 => ob (appV 1 1 st (.sl false 0 d0 .lit) x15) fun a2 => boxV st a2.1 a2.2 fun b2 s2 => (some (.normal, [(0, x0), (2, x2), (3, x3), (4, x4), (5, x5), (15, x15), (16, b2)], s2) : Res) :=
  (runI_reg (c := n6_67) (id := 18) (ops := opsOf n6_67) (draw := false) (by kernel_rfl)).trans (by kernel_rfl)
@[simp] theorem e6_68 (fr : Fr) (st : St) : runI cfg 6 n6_68 fr st = thenR cfg 6 n6_70 (runI cfg 6 n6_69 fr st) := run_seq (by kernel_rfl)
@[simp] theorem e6_69 (fr : Fr) (st : St) : runI cfg 6 n6_69 fr st = ob (lookF fr 0) fun x0 => ob (lookF fr 2) fun x2 => ob (lookF fr 3) fun x3 => ob (lookF fr 4) fun x4 => ob (lookF fr 5) fun x5 => ob (lookF fr 15) fun x15 => ob (lookF fr 16) fun x16 => ob (binV cfg.P (opAt n6_69 1) .and 3 (.int .i64) x4 (.d (.int .i64 65535))) fun x98 => ob (lenV (.slice 5) st.H x16) fun x100 => ob (binV cfg.P (opAt n6_69 4) .rem 3 (.int .i64) x98 x100) fun x101 => (some (.normal, [(0, x0), (2, x2), (3, x3), (5, x5), (15, x15), (16, x16), (17, x101)], st) : Res) :=
  (runI_reg (c := n6_69) (id := 19) (ops := opsOf n6_69) (draw := false) (by kernel_rfl)).trans (by kernel_rfl)
@[simp] theorem e6_70 (fr : Fr) (st : St) : runI cfg 6 n6_70 fr st = thenR cfg 6 n6_72 (runI cfg 6 n6_71 fr st) := run_seq (by kernel_rfl)
@[simp] theorem e6_71 (fr : Fr) (st : St) : runI cfg 6 n6_71 fr st = ob (lookF fr 0) fun x0 => ob (lookF fr 2) fun x2 => ob (lookF fr 3) fun x3 => ob (lookF fr 5) fun x5 => ob (lookF fr 15) fun x15 => ob (lookF fr 16) fun x16 => ob (lookF fr 17) fun x17 => ob (ixV 1 x16 x17) fun x105 => ob (storeV 1 st.H x105 x5) fun h4 => (some (.normal, (frzT 16 [(0, x0), (2, x2), (3, x3), (5, x5), (15, x15), (16, x16), (17, x17)] ⟨h4, st.E⟩).1, (frzT 16 [(0, x0), (2, x2), (3, x3), (5, x5), (15, x15), (16, x16), (17, x17)] ⟨h4, st.E⟩).2) : Res) :=
  (runI_reg (c := n6_71) (id := 20) (ops := opsOf n6_71) (draw := false) (by kernel_rfl)).trans (by kernel_rfl)
@[simp] theorem e6_72 (fr : Fr) (st : St) : runI cfg 6 n6_72 fr st = thenR cfg 6 n6_103 (runI cfg 6 n6_73 fr st) := run_seq (by kernel_rfl)
@[simp] theorem e6_73 (fr : Fr) (st : St) : runI cfg 6 n6_73 fr st = thenR cfg 6 n6_75 (runI cfg 6 n6_74 fr st) := run_seq (by kernel_rfl)
@[simp] theorem e6_74 (fr : Fr) (st : St) : runI cfg 6 n6_74 fr st = ob (lookF fr 0) fun x0 => ob (lookF fr 2) fun x2 => ob (lookF fr 3) fun x3 => ob (lookF fr 5) fun x5 => ob (lookF fr 15) fun x15 => ob (lookF fr 16) fun x16 => ob (lookF fr 17) fun x17 => ob (sliceV (.slice 5) (some 1) x15 none (some x17) none) fun x111 => ob (fillA 1 (repeatL [(.d (.int .u8 0))] 0) []) fun c6 => ob (T.toDs c6) fun d6 => ob (appV 1 1 st (.sl false 0 d6 .lit) x15) fun a8 => ob (fillA 1 (repeatL [(.d (.int .u8 0))] 1) [(0, x5)]) fun c10 => ob (T.toDs c10) fun d10 => ob (appV 1 1 ⟨st.H, a8.2⟩ a8.1 (.sl false 1 d10 .lit)) fun a11 => ob (callI cfg 22 [x0, x2] ⟨st.H, a11.2⟩) fun r14 => ob (fillA 1 (repeatL [nilS] 6) [(0, x3), (1, x15), (2, x16), (3, x111), (4, a11.1), (5, r14.1)]) fun c15 => ob (T.toDs c15) fun d15 => ob (lenV (.slice 31) r14.2.H (.sl false 6 d15 .lit)) fun x122 => (some (.normal, [(121, (.sl false 6 d15 .lit)), (122, x122), (123, (.d (.int .i64 0)))], r14.2) : Res) :=
  (runI_reg (c := n6_74) (id := 21) (ops := opsOf n6_74) (draw := true) (by kernel_rfl)).trans (by kernel_rfl)
@[simp] theorem e6_75 (fr : Fr) (st : St) : runI cfg 6 n6_75 fr st = blockI 4 (runI cfg 6 n6_76 fr st) := run_block (by kernel_rfl)
theorem l6_76 (fr : Fr) (st : St) : runI cfg 6 n6_76 fr st = loopR cfg 6 n6_76 st.H.length (runI cfg 6 n6_77 fr st) := run_loop (by kernel_rfl)
@[simp] theorem e6_77 (fr : Fr) (st : St) : runI cfg 6 n6_77 fr st = thenR cfg 6 n6_79 (runI cfg 6 n6_78 fr st) := run_seq (by kernel_rfl)
@[simp] theorem e6_78 (fr : Fr) (st : St) : runI cfg 6 n6_78 fr st = ob (lookF fr 121) fun x121 => ob (lookF fr 122) fun x122 => ob (lookF fr 123) fun x123 => ob (binV cfg.P (opAt n6_78 0) .lss 3 (.int .i64) x123 x122) fun x124 => (some (.normal, [(121, x121), (122, x122), (123, x123), (124, x124)], st) : Res) :=
  (runI_reg (c := n6_78) (id := 22) (ops := opsOf n6_78) (draw := false) (by kernel_rfl)).trans (by kernel_rfl)
@[simp] theorem e6_79 (fr : Fr) (st : St) : runI cfg 6 n6_79 fr st = thenR cfg 6 n6_83 (runI cfg 6 n6_80 fr st) := run_seq (by kernel_rfl)
@[simp] theorem e6_80 (fr : Fr) (st : St) : runI cfg 6 n6_80 fr st = ob (lookF fr 124) fun v => gC v none (runI cfg 6 n6_81 fr st) (runI cfg 6 n6_82 fr st) := run_cond (x := .tmp 124) (by kernel_rfl)
@[simp] theorem e6_81 (fr : Fr) (st : St) : runI cfg 6 n6_81 fr st = some (.normal, fr, st) := run_skip (by kernel_rfl)
@[simp] theorem e6_82 (fr : Fr) (st : St) : runI cfg 6 n6_82 fr st = some (.exit 4, fr, st) := run_exit (by kernel_rfl)
@[simp] theorem e6_83 (fr : Fr) (st : St) : runI cfg 6 n6_83 fr st = thenR cfg 6 n6_102 (runI cfg 6 n6_84 fr st) := run_seq (by kernel_rfl)
@[simp] theorem e6_84 (fr : Fr) (st : St) : runI cfg 6 n6_84 fr st = blockI 5 (runI cfg 6 n6_85 fr st) := run_block (by kernel_rfl)
@[simp] theorem e6_85 (fr : Fr) (st : St) : runI cfg 6 n6_85 fr st = thenR cfg 6 n6_87 (runI cfg 6 n6_86 fr st) := run_seq (by kernel_rfl)
@[simp] theorem e6_86 (fr : Fr) (st : St) : runI cfg 6 n6_86 fr st = ob (lookF fr 121) fun x121 => ob (lookF fr 122) fun x122 => ob (lookF fr 123) fun x123 => ob (ixV 1 x121 x123) fun x125 => ob (loadV 1 false st.H x125) fun x126 => (some (.normal, [(19, x126), (121, x121), (122, x122), (123, x123)], st) : Res) :=
  (runI_reg (c := n6_86) (id := 23) (ops := opsOf n6_86) (draw := false) (by kernel_rfl)).trans (by kernel_rfl)
@[simp] theorem e6_87 (fr : Fr) (st : St) : runI cfg 6 n6_87 fr st = thenR cfg 6 n6_89 (runI cfg 6 n6_88 fr st) := run_seq (by kernel_rfl)
@[simp] theorem e6_88 (fr : Fr) (st : St) : runI cfg 6 n6_88 fr st = ob (lookF fr 19) fun x19 => ob (lookF fr 121) fun x121 => ob (lookF fr 122) fun x122 => ob (lookF fr 123) fun x123 => ob (callI cfg 17 [x19] st) fun r1 => ob (exV 0 r1.1) fun x130 => ob (exV 1 r1.1) fun x131 => ob (exV 2 r1.1) fun x132 => (some (.normal, [(19, x19), (20, x130), (21, x131), (22, x132), (121, x121), (122, x122), (123, x123)], r1.2) : Res) :=
  (runI_reg (c := n6_88) (id := 24) (ops := opsOf n6_88) (draw := false) (by kernel_rfl)).trans (by kernel_rfl)
@[simp] theorem e6_89 (fr : Fr) (st : St) : runI cfg 6 n6_89 fr st = thenR cfg 6 n6_91 (runI cfg 6 n6_90 fr st) := run_seq (by kernel_rfl)
@[simp] theorem e6_90 (fr : Fr) (st : St) : runI cfg 6 n6_90 fr st = ob (lookF fr 19) fun x19 => ob (lookF fr 20) fun x20 => ob (lookF fr 21) fun x21 => ob (lookF fr 22) fun x22 => ob (lookF fr 121) fun x121 => ob (lookF fr 122) fun x122 => ob (lookF fr 123) fun x123 => ob (callI cfg 23 [x19] st) fun r1 => ob (exV 0 r1.1) fun x136 => ob (exV 1 r1.1) fun x137 => ob (exV 2 r1.1) fun x138 => (some (.normal, [(19, x19), (20, x20), (21, x21), (22, x22), (23, x136), (24, x137), (25, x138), (121, x121), (122, x122), (123, x123)], r1.2) : Res) :=
  (runI_reg (c := n6_90) (id := 25) (ops := opsOf n6_90) (draw := false) (by kernel_rfl)).trans (by kernel_rfl)
@[simp] theorem e6_91 (fr : Fr) (st : St) : runI cfg 6 n6_91 fr st = thenR cfg 6 n6_93 (runI cfg 6 n6_92 fr st) := run_seq (by kernel_rfl)
@[simp] theorem e6_92 (fr : Fr) (st : St) : runI cfg 6 n6_92 fr st = ob (lookF fr 19) fun x19 => ob (lookF fr 20) fun x20 => ob (lookF fr 21) fun x21 => ob (lookF fr 22) fun x22 => ob (lookF fr 23) fun x23 => ob (lookF fr 24) fun x24 => ob (lookF fr 25) fun x25 => ob (lookF fr 121) fun x121 => ob (lookF fr 122) fun x122 => ob (lookF fr 123) fun x123 => ob (callI cfg 18 [x19] st) fun r1 => ob (exV 0 r1.1) fun x142 => ob (exV 1 r1.1) fun x143 => (some (.normal, [(19, x19), (20, x20), (21, x21), (22, x22), (23, x23), (24, x24), (25, x25), (26, x142), (27, x143), (121, x121), (122, x122), (123, x123)], r1.2) : Res) :=
  (runI_reg (c := n6_92) (id := 26) (ops := opsOf n6_92) (draw := false) (by kernel_rfl)).trans (by kernel_rfl)
@[simp] theorem e6_93 (fr : Fr) (st : St) : runI cfg 6 n6_93 fr st = thenR cfg 6 n6_95 (runI cfg 6 n6_94 fr st) := run_seq (by kernel_rfl)
@[simp] theorem e6_94 (fr : Fr) (st : St) : runI cfg 6 n6_94 fr st = ob (lookF fr 19) fun x19 => ob (lookF fr 20) fun x20 => ob (lookF fr 21) fun x21 => ob (lookF fr 22) fun x22 => ob (lookF fr 23) fun x23 => ob (lookF fr 24) fun x24 => ob (lookF fr 25) fun x25 => ob (lookF fr 26) fun x26 => ob (lookF fr 27) fun x27 => ob (lookF fr 121) fun x121 => ob (lookF fr 122) fun x122 => ob (lookF fr 123) fun x123 => ob (callI cfg 24 [x19] st) fun r1 => ob (exV 0 r1.1) fun x147 => ob (exV 1 r1.1) fun x148 => (some (.normal, [(20, x20), (21, x21), (22, x22), (23, x23), (24, x24), (25, x25), (26, x26), (27, x27), (28, x147), (29, x148), (121, x121), (122, x122), (123, x123)], r1.2) : Res) :=
  (runI_reg (c := n6_94) (id := 27) (ops := opsOf n6_94) (draw := false) (by kernel_rfl)).trans (by kernel_rfl)
@[simp] theorem e6_95 (fr : Fr) (st : St) : runI cfg 6 n6_95 fr st = thenR cfg 6 n6_97 (runI cfg 6 n6_96 fr st) := run_seq (by kernel_rfl)
@[simp] theorem e6_96 (fr : Fr) (st : St) : runI cfg 6 n6_96 fr st = ob (lookF fr 20) fun x20 => ob (lookF fr 21) fun x21 => ob (lookF fr 22) fun x22 => ob (lookF fr 23) fun x23 => ob (lookF fr 24) fun x24 => ob (lookF fr 25) fun x25 => ob (lookF fr 26) fun x26 => ob (lookF fr 27) fun x27 => ob (lookF fr 28) fun x28 => ob (lookF fr 29) fun x29 => ob (lookF fr 121) fun x121 => ob (lookF fr 122) fun x122 => ob (lookF fr 123) fun x123 => ob (binV cfg.P (opAt n6_96 2) .neq 4 .bool x22 x25) fun x151 => gC x151 (none) ((some (.normal, [(121, x121), (122, x122), (123, x123), (175, tt)], st) : Res)) (ob (callI cfg 25 [x20, x23] st) fun r6 => ob (notV cfg.P (opAt n6_96 7) .not r6.1) fun x156 => gC x156 (none) ((some (.normal, [(121, x121), (122, x122), (123, x123), (175, tt)], r6.2) : Res)) (ob (callI cfg 19 [x21, x24] r6.2) fun r12 => ob (notV cfg.P (opAt n6_96 13) .not r12.1) fun x162 => gC x162 (none) ((some (.normal, [(121, x121), (122, x122), (123, x123), (175, tt)], r12.2) : Res)) (ob (binV cfg.P (opAt n6_96 18) .neq 4 .bool x27 x29) fun x167 => gC x167 (none) ((some (.normal, [(121, x121), (122, x122), (123, x123), (175, tt)], r12.2) : Res)) (ob (convV cfg.P (opAt n6_96 22) false (some (.slice 5)) (some .string) (some (.int .u8)) none x26) fun x171 => ob (convV cfg.P (opAt n6_96 24) false (some (.slice 5)) (some .string) (some (.int .u8)) none x28) fun x173 => ob (binV cfg.P (opAt n6_96 25) .neq 9 .string x171 x173) fun x174 => (some (.normal, [(121, x121), (122, x122), (123, x123), (175, x174)], r12.2) : Res))))) :=
  (runI_reg (c := n6_96) (id := 28) (ops := opsOf n6_96) (draw := false) (by kernel_rfl)).trans (by kernel_rfl)
@[simp] theorem e6_97 (fr : Fr) (st : St) : runI cfg 6 n6_97 fr st = ob (lookF fr 175) fun v => gC v none (runI cfg 6 n6_98 fr st) (runI cfg 6 n6_101 fr st) := run_cond (x := .tmp 175) (by kernel_rfl)
@[simp] theorem e6_98 (fr : Fr) (st : St) : runI cfg 6 n6_98 fr st = thenR cfg 6 n6_100 (runI cfg 6 n6_99 fr st) := run_seq (by kernel_rfl)
@[simp] theorem e6_99 (fr : Fr) (st : St) : runI cfg 6 n6_99 fr st = (some (.normal, [(12, ff)], st) : Res) :=
  (runI_reg (c := n6_99) (id := 29) (ops := opsOf n6_99) (draw := false) (by kernel_rfl)).trans (by kernel_rfl)
@[simp] theorem e6_100 (fr : Fr) (st : St) : runI cfg 6 n6_100 fr st = some (.ret, fr, st) := run_ret (by kernel_rfl)
@[simp] theorem e6_101 (fr : Fr) (st : St) : runI cfg 6 n6_101 fr st = some (.normal, fr, st) := run_skip (by kernel_rfl)
@[simp] theorem e6_102 (fr : Fr) (st : St) : runI cfg 6 n6_102 fr st = ob (lookF fr 121) fun x121 => ob (lookF fr 122) fun x122 => ob (lookF fr 123) fun x123 => ob (binV cfg.P (opAt n6_102 0) .add 3 (.int .i64) x123 (.d (.int .i64 1))) fun x176 => (some (.normal, [(121, x121), (122, x122), (123, x176)], st) : Res) :=
  (runI_reg (c := n6_102) (id := 30) (ops := opsOf n6_102) (draw := false) (by kernel_rfl)).trans (by kernel_rfl)
@[simp] theorem e6_103 (fr : Fr) (st : St) : runI cfg 6 n6_103 fr st = thenR cfg 6 n6_105 (runI cfg 6 n6_104 fr st) := run_seq (by kernel_rfl)
@[simp] theorem e6_104 (fr : Fr) (st : St) : runI cfg 6 n6_104 fr st = ob (callI cfg 20 [] st) fun r0 => (some (.normal, [(12, r0.1)], r0.2) : Res) :=
  (runI_reg (c := n6_104) (id := 31) (ops := opsOf n6_104) (draw := false) (by kernel_rfl)).trans (by kernel_rfl)
@[simp] theorem e6_105 (fr : Fr) (st : St) : runI cfg 6 n6_105 fr st = some (.ret, fr, st) := run_ret (by kernel_rfl)
@[simp] theorem z6 (fr : Fr) (st : St) : endR cfg Try.f6 (some (.ret, fr, st)) = ob (lookF fr 12) fun x0 => some (x0, st) := end_r.trans (by kernel_rfl)
@[simp] theorem w6 (fr : Fr) (st : St) : endR cfg Try.f6 (some (.normal, fr, st)) = ob (lookF fr 12) fun x0 => some (x0, st) := end_n.trans (by kernel_rfl)
theorem c6 (ts : List T) (st : St) : callI cfg 6 ts st = ob (closeAll ts) fun ts => backR st (endR cfg Try.f6 (runI cfg 6 n6_0 (enumF 0 ts) ⟨[], []⟩)) := call_pure (by kernel_rfl) (by kernel_rfl) (by kernel_rfl) (by kernel_rfl)
/-! 7: fettle.fettlelaw10.PrntApart -/
noncomputable def n7_0 : Code := codeB Try.f7
noncomputable def n7_1 : Code := kid n7_0 false
noncomputable def n7_2 : Code := kid n7_0 true
noncomputable def n7_3 : Code := kid n7_2 false
noncomputable def n7_4 : Code := kid n7_3 false
noncomputable def n7_5 : Code := kid n7_3 true
noncomputable def n7_6 : Code := kid n7_5 false
noncomputable def n7_7 : Code := kid n7_5 true
noncomputable def n7_8 : Code := kid n7_2 true
noncomputable def n7_9 : Code := kid n7_8 false
noncomputable def n7_10 : Code := kid n7_9 false
noncomputable def n7_11 : Code := kid n7_9 true
noncomputable def n7_12 : Code := kid n7_11 false
noncomputable def n7_13 : Code := kid n7_12 false
noncomputable def n7_14 : Code := kid n7_13 false
noncomputable def n7_15 : Code := kid n7_13 true
noncomputable def n7_16 : Code := kid n7_15 false
noncomputable def n7_17 : Code := kid n7_16 false
noncomputable def n7_18 : Code := kid n7_16 true
noncomputable def n7_19 : Code := kid n7_15 true
noncomputable def n7_20 : Code := kid n7_19 false
noncomputable def n7_21 : Code := kid n7_20 false
noncomputable def n7_22 : Code := kid n7_21 false
noncomputable def n7_23 : Code := kid n7_21 true
noncomputable def n7_24 : Code := kid n7_23 false
noncomputable def n7_25 : Code := kid n7_23 true
noncomputable def n7_26 : Code := kid n7_25 false
noncomputable def n7_27 : Code := kid n7_26 false
noncomputable def n7_28 : Code := kid n7_26 true
noncomputable def n7_29 : Code := kid n7_25 true
noncomputable def n7_30 : Code := kid n7_19 true
noncomputable def n7_31 : Code := kid n7_8 true
noncomputable def n7_32 : Code := kid n7_31 false
noncomputable def n7_33 : Code := kid n7_31 true
noncomputable def n7_34 : Code := kid n7_33 false
noncomputable def n7_35 : Code := kid n7_34 false
noncomputable def n7_36 : Code := kid n7_34 true
noncomputable def n7_37 : Code := kid n7_36 false
noncomputable def n7_38 : Code := kid n7_37 false
noncomputable def n7_39 : Code := kid n7_37 true
noncomputable def n7_40 : Code := kid n7_39 false
noncomputable def n7_41 : Code := kid n7_39 true
noncomputable def n7_42 : Code := kid n7_36 true
noncomputable def n7_43 : Code := kid n7_33 true
noncomputable def n7_44 : Code := kid n7_43 false
noncomputable def n7_45 : Code := kid n7_43 true
noncomputable def n7_46 : Code := kid n7_45 false
noncomputable def n7_47 : Code := kid n7_45 true
noncomputable def n7_48 : Code := kid n7_47 false
noncomputable def n7_49 : Code := kid n7_47 true
noncomputable def n7_50 : Code := kid n7_49 false
noncomputable def n7_51 : Code := kid n7_50 false
noncomputable def n7_52 : Code := kid n7_50 true
noncomputable def n7_53 : Code := kid n7_52 false
noncomputable def n7_54 : Code := kid n7_53 false
noncomputable def n7_55 : Code := kid n7_53 true
noncomputable def n7_56 : Code := kid n7_52 true
noncomputable def n7_57 : Code := kid n7_49 true
noncomputable def n7_58 : Code := kid n7_57 false
noncomputable def n7_59 : Code := kid n7_57 true
noncomputable def n7_60 : Code := kid n7_59 false
noncomputable def n7_61 : Code := kid n7_59 true
noncomputable def n7_62 : Code := kid n7_61 false
noncomputable def n7_63 : Code := kid n7_61 true
noncomputable def n7_64 : Code := kid n7_63 false
noncomputable def n7_65 : Code := kid n7_63 true
@[simp] theorem e7_0 (fr : Fr) (st : St) : runI cfg 7 n7_0 fr st = thenR cfg 7 n7_2 (runI cfg 7 n7_1 fr st) := run_seq (by kernel_rfl)
@[simp] theorem e7_1 (fr : Fr) (st : St) : runI cfg 7 n7_1 fr st = ob (lookF fr 0) fun x0 => ob (lookF fr 1) fun x1 => ob (lookF fr 2) fun x2 => ob (lookF fr 3) fun x3 => ob (lookF fr 4) fun x4 => (some (.normal, [(0, x0), (1, x1), (2, x2), (3, x3), (4, x4)], st) : Res) :=
  (runI_reg (c := n7_1) (id := 0) (ops := opsOf n7_1) (draw := false) (by kernel_rfl)).trans (by kernel_rfl)
@[simp] theorem e7_2 (fr : Fr) (st : St) : runI cfg 7 n7_2 fr st = thenR cfg 7 n7_8 (runI cfg 7 n7_3 fr st) := run_seq (by kernel_rfl)
@[simp] theorem e7_3 (fr : Fr) (st : St) : runI cfg 7 n7_3 fr st = thenR cfg 7 n7_5 (runI cfg 7 n7_4 fr st) := run_seq (by kernel_rfl)
@[simp] theorem e7_4 (fr : Fr) (st : St) : runI cfg 7 n7_4 fr st = ob (lookF fr 0) fun x0 => ob (lookF fr 1) fun x1 => ob (lookF fr 2) fun x2 => ob (lookF fr 3) fun x3 => ob (lookF fr 4) fun x4 => ob (lenV (.slice 31) st.H x2) fun x27 => ob (binV cfg.P (opAt n7_4 2) .gtr 3 (.int .i64) x27 (.d (.int .i64 8))) fun x28 => (some (.normal, [(0, x0), (1, x1), (2, x2), (3, x3), (4, x4), (28, x28)], st) : Res) :=
  (runI_reg (c := n7_4) (id := 1) (ops := opsOf n7_4) (draw := false) (by kernel_rfl)).trans (by kernel_rfl)
@[simp] theorem e7_5 (fr : Fr) (st : St) : runI cfg 7 n7_5 fr st = ob (lookF fr 28) fun v => gC v none (runI cfg 7 n7_6 fr st) (runI cfg 7 n7_7 fr st) := run_cond (x := .tmp 28) (by kernel_rfl)
@[simp] theorem e7_6 (fr : Fr) (st : St) : runI cfg 7 n7_6 fr st = ob (lookF fr 0) fun x0 => ob (lookF fr 1) fun x1 => ob (lookF fr 2) fun x2 => ob (lookF fr 3) fun x3 => ob (lookF fr 4) fun x4 => ob (sliceV (.slice 31) (some 1) x2 none (some (.d (.int .i64 8))) none) fun x30 => (some (.normal, [(0, x0), (1, x1), (2, x30), (3, x3), (4, x4)], st) : Res) :=
  (runI_reg (c := n7_6) (id := 2) (ops := opsOf n7_6) (draw := false) (by kernel_rfl)).trans (by kernel_rfl)
@[simp] theorem e7_7 (fr : Fr) (st : St) : runI cfg 7 n7_7 fr st = some (.normal, fr, st) := run_skip (by kernel_rfl)
@[simp] theorem e7_8 (fr : Fr) (st : St) : runI cfg 7 n7_8 fr st = thenR cfg 7 n7_31 (runI cfg 7 n7_9 fr st) := run_seq (by kernel_rfl)
@[simp] theorem e7_9 (fr : Fr) (st : St) : runI cfg 7 n7_9 fr st = thenR cfg 7 n7_11 (runI cfg 7 n7_10 fr st) := run_seq (by kernel_rfl)
@[simp] theorem e7_10 (fr : Fr) (st : St) : runI cfg 7 n7_10 fr st = ob (lookF fr 0) fun x0 => ob (lookF fr 1) fun x1 => ob (lookF fr 2) fun x2 => ob (lookF fr 3) fun x3 => ob (lookF fr 4) fun x4 => ob (lenV (.slice 31) st.H x2) fun x32 => (some (.normal, [(0, x0), (1, x1), (2, x2), (3, x3), (4, x4), (32, x32), (33, (.d (.int .i64 0)))], st) : Res) :=
  (runI_reg (c := n7_10) (id := 3) (ops := opsOf n7_10) (draw := false) (by kernel_rfl)).trans (by kernel_rfl)
@[simp] theorem e7_11 (fr : Fr) (st : St) : runI cfg 7 n7_11 fr st = blockI 0 (runI cfg 7 n7_12 fr st) := run_block (by kernel_rfl)
theorem l7_12 (fr : Fr) (st : St) : runI cfg 7 n7_12 fr st = loopR cfg 7 n7_12 st.H.length (runI cfg 7 n7_13 fr st) := run_loop (by kernel_rfl)
@[simp] theorem e7_13 (fr : Fr) (st : St) : runI cfg 7 n7_13 fr st = thenR cfg 7 n7_15 (runI cfg 7 n7_14 fr st) := run_seq (by kernel_rfl)
@[simp] theorem e7_14 (fr : Fr) (st : St) : runI cfg 7 n7_14 fr st = ob (lookF fr 0) fun x0 => ob (lookF fr 1) fun x1 => ob (lookF fr 2) fun x2 => ob (lookF fr 3) fun x3 => ob (lookF fr 4) fun x4 => ob (lookF fr 32) fun x32 => ob (lookF fr 33) fun x33 => ob (binV cfg.P (opAt n7_14 0) .lss 3 (.int .i64) x33 x32) fun x34 => (some (.normal, [(0, x0), (1, x1), (2, x2), (3, x3), (4, x4), (32, x32), (33, x33), (34, x34)], st) : Res) :=
  (runI_reg (c := n7_14) (id := 4) (ops := opsOf n7_14) (draw := false) (by kernel_rfl)).trans (by kernel_rfl)
@[simp] theorem e7_15 (fr : Fr) (st : St) : runI cfg 7 n7_15 fr st = thenR cfg 7 n7_19 (runI cfg 7 n7_16 fr st) := run_seq (by kernel_rfl)
@[simp] theorem e7_16 (fr : Fr) (st : St) : runI cfg 7 n7_16 fr st = ob (lookF fr 34) fun v => gC v none (runI cfg 7 n7_17 fr st) (runI cfg 7 n7_18 fr st) := run_cond (x := .tmp 34) (by kernel_rfl)
@[simp] theorem e7_17 (fr : Fr) (st : St) : runI cfg 7 n7_17 fr st = some (.normal, fr, st) := run_skip (by kernel_rfl)
@[simp] theorem e7_18 (fr : Fr) (st : St) : runI cfg 7 n7_18 fr st = some (.exit 0, fr, st) := run_exit (by kernel_rfl)
@[simp] theorem e7_19 (fr : Fr) (st : St) : runI cfg 7 n7_19 fr st = thenR cfg 7 n7_30 (runI cfg 7 n7_20 fr st) := run_seq (by kernel_rfl)
@[simp] theorem e7_20 (fr : Fr) (st : St) : runI cfg 7 n7_20 fr st = blockI 1 (runI cfg 7 n7_21 fr st) := run_block (by kernel_rfl)
@[simp] theorem e7_21 (fr : Fr) (st : St) : runI cfg 7 n7_21 fr st = thenR cfg 7 n7_23 (runI cfg 7 n7_22 fr st) := run_seq (by kernel_rfl)
@[simp] theorem e7_22 (fr : Fr) (st : St) : runI cfg 7 n7_22 fr st = ob (lookF fr 0) fun x0 => ob (lookF fr 1) fun x1 => ob (lookF fr 2) fun x2 => ob (lookF fr 3) fun x3 => ob (lookF fr 4) fun x4 => ob (lookF fr 32) fun x32 => ob (lookF fr 33) fun x33 => (some (.normal, [(0, x0), (1, x1), (2, x2), (3, x3), (4, x4), (11, x33), (32, x32), (33, x33)], st) : Res) :=
  (runI_reg (c := n7_22) (id := 5) (ops := opsOf n7_22) (draw := false) (by kernel_rfl)).trans (by kernel_rfl)
@[simp] theorem e7_23 (fr : Fr) (st : St) : runI cfg 7 n7_23 fr st = thenR cfg 7 n7_25 (runI cfg 7 n7_24 fr st) := run_seq (by kernel_rfl)
@[simp] theorem e7_24 (fr : Fr) (st : St) : runI cfg 7 n7_24 fr st = ob (lookF fr 0) fun x0 => ob (lookF fr 1) fun x1 => ob (lookF fr 2) fun x2 => ob (lookF fr 3) fun x3 => ob (lookF fr 4) fun x4 => ob (lookF fr 11) fun x11 => ob (lookF fr 32) fun x32 => ob (lookF fr 33) fun x33 => ob (ixV 1 x2 x11) fun x38 => ob (loadV 1 false st.H x38) fun x39 => ob (lenV (.slice 5) st.H x39) fun x40 => ob (binV cfg.P (opAt n7_24 5) .gtr 3 (.int .i64) x40 (.d (.int .i64 256))) fun x41 => (some (.normal, [(0, x0), (1, x1), (2, x2), (3, x3), (4, x4), (32, x32), (33, x33), (41, x41)], st) : Res) :=
  (runI_reg (c := n7_24) (id := 6) (ops := opsOf n7_24) (draw := false) (by kernel_rfl)).trans (by kernel_rfl)
@[simp] theorem e7_25 (fr : Fr) (st : St) : runI cfg 7 n7_25 fr st = ob (lookF fr 41) fun v => gC v none (runI cfg 7 n7_26 fr st) (runI cfg 7 n7_29 fr st) := run_cond (x := .tmp 41) (by kernel_rfl)
@[simp] theorem e7_26 (fr : Fr) (st : St) : runI cfg 7 n7_26 fr st = thenR cfg 7 n7_28 (runI cfg 7 n7_27 fr st) := run_seq (by kernel_rfl)
@[simp] theorem e7_27 (fr : Fr) (st : St) : runI cfg 7 n7_27 fr st = ob (callI cfg 20 [] st) fun r0 => (some (.normal, [(10, r0.1)], r0.2) : Res) :=
  (runI_reg (c := n7_27) (id := 7) (ops := opsOf n7_27) (draw := false) (by kernel_rfl)).trans (by kernel_rfl)
@[simp] theorem e7_28 (fr : Fr) (st : St) : runI cfg 7 n7_28 fr st = some (.ret, fr, st) := run_ret (by kernel_rfl)
@[simp] theorem e7_29 (fr : Fr) (st : St) : runI cfg 7 n7_29 fr st = some (.normal, fr, st) := run_skip (by kernel_rfl)
@[simp] theorem e7_30 (fr : Fr) (st : St) : runI cfg 7 n7_30 fr st = ob (lookF fr 0) fun x0 => ob (lookF fr 1) fun x1 => ob (lookF fr 2) fun x2 => ob (lookF fr 3) fun x3 => ob (lookF fr 4) fun x4 => ob (lookF fr 32) fun x32 => ob (lookF fr 33) fun x33 => ob (binV cfg.P (opAt n7_30 0) .add 3 (.int .i64) x33 (.d (.int .i64 1))) fun x43 => (some (.normal, [(0, x0), (1, x1), (2, x2), (3, x3), (4, x4), (32, x32), (33, x43)], st) : Res) :=
  (runI_reg (c := n7_30) (id := 8) (ops := opsOf n7_30) (draw := false) (by kernel_rfl)).trans (by kernel_rfl)
@[simp] theorem e7_31 (fr : Fr) (st : St) : runI cfg 7 n7_31 fr st = thenR cfg 7 n7_33 (runI cfg 7 n7_32 fr st) := run_seq (by kernel_rfl)
@[simp] theorem e7_32 (fr : Fr) (st : St) : runI cfg 7 n7_32 fr st = ob (lookF fr 0) fun x0 => ob (lookF fr 1) fun x1 => ob (lookF fr 2) fun x2 => ob (lookF fr 3) fun x3 => ob (lookF fr 4) fun x4 => (some (.normal, [(0, x0), (1, x1), (2, x2), (3, x3), (4, x4), (12, x2)], st) : Res) :=
  (runI_reg (c := n7_32) (id := 9) (ops := opsOf n7_32) (draw := false) (by kernel_rfl)).trans (by kernel_rfl)
@[simp] theorem e7_33 (fr : Fr) (st : St) : runI cfg 7 n7_33 fr st = thenR cfg 7 n7_43 (runI cfg 7 n7_34 fr st) := run_seq (by kernel_rfl)
@[simp] theorem e7_34 (fr : Fr) (st : St) : runI cfg 7 n7_34 fr st = thenR cfg 7 n7_36 (runI cfg 7 n7_35 fr st) := run_seq (by kernel_rfl)
@[simp] theorem e7_35 (fr : Fr) (st : St) : runI cfg 7 n7_35 fr st = ob (lookF fr 0) fun x0 => ob (lookF fr 1) fun x1 => ob (lookF fr 2) fun x2 => ob (lookF fr 3) fun x3 => ob (lookF fr 4) fun x4 => ob (lookF fr 12) fun x12 => ob (notV cfg.P (opAt n7_35 1) .not x4) fun x46 => gC x46 (none) (ob (lenV (.slice 31) st.H x2) fun x49 => ob (binV cfg.P (opAt n7_35 5) .gtr 3 (.int .i64) x49 (.d (.int .i64 0))) fun x50 => (some (.normal, [(0, x0), (1, x1), (2, x2), (3, x3), (12, x12), (51, x50)], st) : Res)) ((some (.normal, [(0, x0), (1, x1), (2, x2), (3, x3), (12, x12), (51, ff)], st) : Res)) :=
  (runI_reg (c := n7_35) (id := 10) (ops := opsOf n7_35) (draw := false) (by kernel_rfl)).trans (by kernel_rfl)
@[simp] theorem e7_36 (fr : Fr) (st : St) : runI cfg 7 n7_36 fr st = ob (lookF fr 51) fun v => gC v none (runI cfg 7 n7_37 fr st) (runI cfg 7 n7_42 fr st) := run_cond (x := .tmp 51) (by kernel_rfl)
@[simp] theorem e7_37 (fr : Fr) (st : St) : runI cfg 7 n7_37 fr st = thenR cfg 7 n7_39 (runI cfg 7 n7_38 fr st) := run_seq (by kernel_rfl)
@[simp] theorem e7_38 (fr : Fr) (st : St) : runI cfg 7 n7_38 fr st = ob (lookF fr 0) fun x0 => ob (lookF fr 1) fun x1 => ob (lookF fr 2) fun x2 => ob (lookF fr 3) fun x3 => ob (binV cfg.P (opAt n7_38 1) .and 3 (.int .i64) x3 (.d (.int .i64 255))) fun x53 => ob (lenV (.slice 31) st.H x2) fun x55 => ob (binV cfg.P (opAt n7_38 4) .rem 3 (.int .i64) x53 x55) fun x56 => (some (.normal, [(0, x0), (1, x1), (2, x2), (3, x3), (13, x56)], st) : Res) :=
  (runI_reg (c := n7_38) (id := 11) (ops := opsOf n7_38) (draw := false) (by kernel_rfl)).trans (by kernel_rfl)
@[simp] theorem e7_39 (fr : Fr) (st : St) : runI cfg 7 n7_39 fr st = thenR cfg 7 n7_41 (runI cfg 7 n7_40 fr st) := run_seq (by kernel_rfl)
@[simp] theorem e7_40 (fr : Fr) (st : St) : runI cfg 7 n7_40 fr st = ob (lookF fr 0) fun x0 => ob (lookF fr 1) fun x1 => ob (lookF fr 2) fun x2 => ob (lookF fr 3) fun x3 => ob (lookF fr 13) fun x13 => ob (fillA 1 (repeatL [nilS] 0) []) fun c0 => ob (T.toDs c0) fun d0 => ob (appV 1 24 st (.sl false 0 d0 .lit) x2) fun a2 => boxV st a2.1 a2.2 fun b2 s2 => (some (.normal, [(0, x0), (1, x1), (2, x2), (3, x3), (12, b2), (13, x13)], s2) : Res) :=
  (runI_reg (c := n7_40) (id := 12) (ops := opsOf n7_40) (draw := false) (by kernel_rfl)).trans (by kernel_rfl)
@[simp] theorem e7_41 (fr : Fr) (st : St) : runI cfg 7 n7_41 fr st = ob (lookF fr 0) fun x0 => ob (lookF fr 1) fun x1 => ob (lookF fr 2) fun x2 => ob (lookF fr 3) fun x3 => ob (lookF fr 12) fun x12 => ob (lookF fr 13) fun x13 => ob (fillA 1 (repeatL [(.d (.int .u8 0))] 0) []) fun c2 => ob (T.toDs c2) fun d2 => ob (ixV 1 x2 x13) fun x65 => ob (loadV 1 false st.H x65) fun x66 => ob (ixV 1 x2 x13) fun x69 => ob (loadV 1 false st.H x69) fun x70 => ob (lenV (.slice 5) st.H x70) fun x71 => ob (minmaxV false x71 (.d (.int .i64 255))) fun x72 => ob (sliceV (.slice 5) (some 1) x66 none (some x72) none) fun x73 => ob (appV 1 1 st (.sl false 0 d2 .lit) x73) fun a14 => ob (binV cfg.P (opAt n7_41 16) .shr 3 (.int .i64) x3 (.d (.int .u64 8))) fun x76 => ob (convV cfg.P (opAt n7_41 17) false (some (.int .i64)) (some (.int .u8)) none none x76) fun x77 => ob (fillA 1 (repeatL [(.d (.int .u8 0))] 1) [(0, x77)]) fun c18 => ob (T.toDs c18) fun d18 => ob (appV 1 1 ⟨st.H, a14.2⟩ a14.1 (.sl false 1 d18 .lit)) fun a19 => ob (ixV 1 x12 x13) fun x80 => ob (storeV 1 st.H x80 a19.1) fun h21 => (some (.normal, (frzT 12 [(0, x0), (1, x1), (2, x2), (12, x12)] ⟨h21, a19.2⟩).1, (frzT 12 [(0, x0), (1, x1), (2, x2), (12, x12)] ⟨h21, a19.2⟩).2) : Res) :=
  (runI_reg (c := n7_41) (id := 13) (ops := opsOf n7_41) (draw := true) (by kernel_rfl)).trans (by kernel_rfl)
@[simp] theorem e7_42 (fr : Fr) (st : St) : runI cfg 7 n7_42 fr st = some (.normal, fr, st) := run_skip (by kernel_rfl)
@[simp] theorem e7_43 (fr : Fr) (st : St) : runI cfg 7 n7_43 fr st = thenR cfg 7 n7_45 (runI cfg 7 n7_44 fr st) := run_seq (by kernel_rfl)
@[simp] theorem e7_44 (fr : Fr) (st : St) : runI cfg 7 n7_44 fr st = ob (lookF fr 0) fun x0 => ob (lookF fr 1) fun x1 => ob (lookF fr 2) fun x2 => ob (lookF fr 12) fun x12 => ob (callI cfg 21 [x0] st) fun r1 => ob (callI cfg 21 [x1] r1.2) fun r3 => (some (.normal, [(2, x2), (12, x12), (14, r1.1), (15, r3.1)], r3.2) : Res) :=
  (runI_reg (c := n7_44) (id := 14) (ops := opsOf n7_44) (draw := false) (by kernel_rfl)).trans (by kernel_rfl)
@[simp] theorem e7_45 (fr : Fr) (st : St) : runI cfg 7 n7_45 fr st = thenR cfg 7 n7_47 (runI cfg 7 n7_46 fr st) := run_seq (by kernel_rfl)
@[simp] theorem e7_46 (fr : Fr) (st : St) : runI cfg 7 n7_46 fr st = ob (lookF fr 2) fun x2 => ob (lookF fr 12) fun x12 => ob (lookF fr 14) fun x14 => ob (lookF fr 15) fun x15 => ob (callI cfg 16 [x14, x2] st) fun r2 => ob (callI cfg 16 [x15, x12] r2.2) fun r5 => (some (.normal, [(2, x2), (12, x12), (14, x14), (15, x15), (16, r2.1), (17, r5.1)], r5.2) : Res) :=
  (runI_reg (c := n7_46) (id := 15) (ops := opsOf n7_46) (draw := false) (by kernel_rfl)).trans (by kernel_rfl)
@[simp] theorem e7_47 (fr : Fr) (st : St) : runI cfg 7 n7_47 fr st = thenR cfg 7 n7_49 (runI cfg 7 n7_48 fr st) := run_seq (by kernel_rfl)
@[simp] theorem e7_48 (fr : Fr) (st : St) : runI cfg 7 n7_48 fr st = ob (lookF fr 2) fun x2 => ob (lookF fr 12) fun x12 => ob (lookF fr 14) fun x14 => ob (lookF fr 15) fun x15 => ob (lookF fr 16) fun x16 => ob (lookF fr 17) fun x17 => ob (callI cfg 25 [x14, x15] st) fun r2 => gC r2.1 (none) (ob (callI cfg 19 [x2, x12] r2.2) fun r6 => (some (.normal, [(2, x2), (14, x14), (16, x16), (17, x17), (18, r6.1)], r6.2) : Res)) ((some (.normal, [(2, x2), (14, x14), (16, x16), (17, x17), (18, ff)], r2.2) : Res)) :=
  (runI_reg (c := n7_48) (id := 16) (ops := opsOf n7_48) (draw := false) (by kernel_rfl)).trans (by kernel_rfl)
@[simp] theorem e7_49 (fr : Fr) (st : St) : runI cfg 7 n7_49 fr st = thenR cfg 7 n7_57 (runI cfg 7 n7_50 fr st) := run_seq (by kernel_rfl)
@[simp] theorem e7_50 (fr : Fr) (st : St) : runI cfg 7 n7_50 fr st = thenR cfg 7 n7_52 (runI cfg 7 n7_51 fr st) := run_seq (by kernel_rfl)
@[simp] theorem e7_51 (fr : Fr) (st : St) : runI cfg 7 n7_51 fr st = ob (lookF fr 2) fun x2 => ob (lookF fr 14) fun x14 => ob (lookF fr 16) fun x16 => ob (lookF fr 17) fun x17 => ob (lookF fr 18) fun x18 => ob (convV cfg.P (opAt n7_51 1) false (some (.slice 5)) (some .string) (some (.int .u8)) none x16) fun x100 => ob (convV cfg.P (opAt n7_51 3) false (some (.slice 5)) (some .string) (some (.int .u8)) none x17) fun x102 => ob (binV cfg.P (opAt n7_51 4) .eql 9 .string x100 x102) fun x103 => ob (binV cfg.P (opAt n7_51 6) .neq 4 .bool x103 x18) fun x105 => (some (.normal, [(2, x2), (14, x14), (16, x16), (105, x105)], st) : Res) :=
  (runI_reg (c := n7_51) (id := 17) (ops := opsOf n7_51) (draw := false) (by kernel_rfl)).trans (by kernel_rfl)
@[simp] theorem e7_52 (fr : Fr) (st : St) : runI cfg 7 n7_52 fr st = ob (lookF fr 105) fun v => gC v none (runI cfg 7 n7_53 fr st) (runI cfg 7 n7_56 fr st) := run_cond (x := .tmp 105) (by kernel_rfl)
@[simp] theorem e7_53 (fr : Fr) (st : St) : runI cfg 7 n7_53 fr st = thenR cfg 7 n7_55 (runI cfg 7 n7_54 fr st) := run_seq (by kernel_rfl)
@[simp] theorem e7_54 (fr : Fr) (st : St) : runI cfg 7 n7_54 fr st = (some (.normal, [(10, ff)], st) : Res) :=
  (runI_reg (c := n7_54) (id := 18) (ops := opsOf n7_54) (draw := false) (by kernel_rfl)).trans (by kernel_rfl)
@[simp] theorem e7_55 (fr : Fr) (st : St) : runI cfg 7 n7_55 fr st = some (.ret, fr, st) := run_ret (by kernel_rfl)
@[simp] theorem e7_56 (fr : Fr) (st : St) : runI cfg 7 n7_56 fr st = some (.normal, fr, st) := run_skip (by kernel_rfl)
@[simp] theorem e7_57 (fr : Fr) (st : St) : runI cfg 7 n7_57 fr st = thenR cfg 7 n7_59 (runI cfg 7 n7_58 fr st) := run_seq (by kernel_rfl)
@[simp] theorem e7_58 (fr : Fr) (st : St) : runI cfg 7 n7_58 fr st = ob (lookF fr 2) fun x2 => ob (lookF fr 14) fun x14 => ob (lookF fr 16) fun x16 => ob (callI cfg 17 [x16] st) fun r1 => ob (exV 0 r1.1) fun x109 => ob (exV 1 r1.1) fun x110 => ob (exV 2 r1.1) fun x111 => (some (.normal, [(2, x2), (14, x14), (16, x16), (19, x109), (20, x110), (21, x111)], r1.2) : Res) :=
  (runI_reg (c := n7_58) (id := 19) (ops := opsOf n7_58) (draw := false) (by kernel_rfl)).trans (by kernel_rfl)
@[simp] theorem e7_59 (fr : Fr) (st : St) : runI cfg 7 n7_59 fr st = thenR cfg 7 n7_61 (runI cfg 7 n7_60 fr st) := run_seq (by kernel_rfl)
@[simp] theorem e7_60 (fr : Fr) (st : St) : runI cfg 7 n7_60 fr st = ob (lookF fr 2) fun x2 => ob (lookF fr 14) fun x14 => ob (lookF fr 16) fun x16 => ob (lookF fr 19) fun x19 => ob (lookF fr 20) fun x20 => ob (lookF fr 21) fun x21 => ob (callI cfg 18 [x16] st) fun r1 => ob (exV 0 r1.1) fun x115 => ob (exV 1 r1.1) fun x116 => (some (.normal, [(2, x2), (14, x14), (19, x19), (20, x20), (21, x21), (22, x115), (23, x116)], r1.2) : Res) :=
  (runI_reg (c := n7_60) (id := 20) (ops := opsOf n7_60) (draw := false) (by kernel_rfl)).trans (by kernel_rfl)
@[simp] theorem e7_61 (fr : Fr) (st : St) : runI cfg 7 n7_61 fr st = thenR cfg 7 n7_63 (runI cfg 7 n7_62 fr st) := run_seq (by kernel_rfl)
@[simp] theorem e7_62 (fr : Fr) (st : St) : runI cfg 7 n7_62 fr st = ob (lookF fr 2) fun x2 => ob (lookF fr 14) fun x14 => ob (lookF fr 19) fun x19 => ob (lookF fr 20) fun x20 => ob (lookF fr 21) fun x21 => ob (lookF fr 22) fun x22 => ob (lookF fr 23) fun x23 => ob (callI cfg 26 [x14, x2] st) fun r2 => ob (exV 0 r2.1) fun x121 => ob (exV 1 r2.1) fun x122 => (some (.normal, [(2, x2), (14, x14), (19, x19), (20, x20), (21, x21), (22, x22), (23, x23), (24, x121), (25, x122)], r2.2) : Res) :=
  (runI_reg (c := n7_62) (id := 21) (ops := opsOf n7_62) (draw := false) (by kernel_rfl)).trans (by kernel_rfl)
@[simp] theorem e7_63 (fr : Fr) (st : St) : runI cfg 7 n7_63 fr st = thenR cfg 7 n7_65 (runI cfg 7 n7_64 fr st) := run_seq (by kernel_rfl)
@[simp] theorem e7_64 (fr : Fr) (st : St) : runI cfg 7 n7_64 fr st = ob (lookF fr 2) fun x2 => ob (lookF fr 14) fun x14 => ob (lookF fr 19) fun x19 => ob (lookF fr 20) fun x20 => ob (lookF fr 21) fun x21 => ob (lookF fr 22) fun x22 => ob (lookF fr 23) fun x23 => ob (lookF fr 24) fun x24 => ob (lookF fr 25) fun x25 => gC x21 (none) (ob (callI cfg 25 [x19, x14] st) fun r4 => gC r4.1 (none) (ob (callI cfg 19 [x20, x2] r4.2) fun r9 => gC r9.1 (none) (ob (binV cfg.P (opAt n7_64 14) .eql 4 .bool x23 x25) fun x137 => gC x137 (none) (ob (convV cfg.P (opAt n7_64 18) false (some (.slice 5)) (some .string) (some (.int .u8)) none x22) fun x141 => ob (convV cfg.P (opAt n7_64 20) false (some (.slice 5)) (some .string) (some (.int .u8)) none x24) fun x143 => ob (binV cfg.P (opAt n7_64 21) .eql 9 .string x141 x143) fun x144 => gC x144 (none) (ob (callI cfg 20 [] r9.2) fun r24 => (some (.normal, [(10, r24.1)], r24.2) : Res)) ((some (.normal, [(10, ff)], r9.2) : Res))) ((some (.normal, [(10, ff)], r9.2) : Res))) ((some (.normal, [(10, ff)], r9.2) : Res))) ((some (.normal, [(10, ff)], r4.2) : Res))) ((some (.normal, [(10, ff)], st) : Res)) :=
  (runI_reg (c := n7_64) (id := 22) (ops := opsOf n7_64) (draw := false) (by kernel_rfl)).trans (by kernel_rfl)
@[simp] theorem e7_65 (fr : Fr) (st : St) : runI cfg 7 n7_65 fr st = some (.ret, fr, st) := run_ret (by kernel_rfl)
@[simp] theorem z7 (fr : Fr) (st : St) : endR cfg Try.f7 (some (.ret, fr, st)) = ob (lookF fr 10) fun x0 => some (x0, st) := end_r.trans (by kernel_rfl)
@[simp] theorem w7 (fr : Fr) (st : St) : endR cfg Try.f7 (some (.normal, fr, st)) = ob (lookF fr 10) fun x0 => some (x0, st) := end_n.trans (by kernel_rfl)
theorem c7 (ts : List T) (st : St) : callI cfg 7 ts st = ob (closeAll ts) fun ts => backR st (endR cfg Try.f7 (runI cfg 7 n7_0 (enumF 0 ts) ⟨[], []⟩)) := call_pure (by kernel_rfl) (by kernel_rfl) (by kernel_rfl) (by kernel_rfl)
end Go.Proofs.CfgA
end
section

end
