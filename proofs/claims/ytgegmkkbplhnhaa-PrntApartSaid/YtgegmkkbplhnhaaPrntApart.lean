/- Rows.PrntApartSaid: for every input PrntApart returns true and its arguments read as before. No conditions. -/
import Derived.Test.YtgegmkkbplhnhaaRows
import Derived.WalkKit
import Derived.ProofKit
import Derived.OpenShut
import Derived.ShutString
import Derived.ChangeOld
import Derived.Below
import Derived.Deep.Matrix
import Derived.Test.YtgegmkkbplhnhaaRunB
section
namespace Go.Proofs.Ytgegmkkbplhnhaa.prntApart
open Go.ChangeShapes Go.WideShapes Go.ChangeAt Go.RowKit
set_option linter.unusedVariables false
theorem own : ownKnob Try.prog.godebug = none := by kernel_rfl
theorem laidOut : laidOutB Try.prog = true := by kernel_rfl
def IsInts (w : World) (v : Value) : Prop := ∃ (nl : Bool) (l : List Int), (nl = true → l = []) ∧ Tm.VR (Tm.GJ (fun _ => True) w) [] w (.sl nl l.length (CfgA.ints l) .ro) v
def IsRows (w : World) (v : Value) : Prop := ∃ (nl : Bool) (R : List Tm.Row), (nl = true → R = []) ∧ Tm.VR (Tm.GJ (fun _ => True) w) [] w (.sl nl R.length (Tm.rowsD R) .ro) v
theorem walk (v0 v1 v2 : Value) (a3 : Int) (a4 : Bool) (w : World) (h0 : IsInts w v0) (h1 : IsInts w v1) (h2 : IsRows w v2) :
    Calls Try.prog 7 #[v0, v1, v2, .int .i64 a3, .bool a4] w fun e w' => e = .returned (.bool true) ∧ Below w.heap.size w w' := by
  obtain ⟨nl0, l, n0, r0⟩ := h0
  obtain ⟨nl1, m, n1, r1⟩ := h1
  obtain ⟨nl2, R, n2, r2⟩ := h2
  obtain ⟨st', h⟩ := CfgA.apart_run (l := l) (m := m) (R0 := R) (nlL := nl0) (nlM := nl1) (nlI := nl2) (oL := .ro) (oM := .ro) (oI := .ro) (at_ := a3) (same := a4) n0 n1 n2
  obtain ⟨k, hk⟩ := Tm.callI_iff.1 h
  refine Tm.law_of (C := CfgA.cfg) CfgA.good hk ?_
  unfold Tm.VRL
  refine ⟨r0, ?_⟩
  unfold Tm.VRL
  refine ⟨r1, ?_⟩
  unfold Tm.VRL
  refine ⟨r2, ?_⟩
  unfold Tm.VRL Tm.VR
  refine ⟨⟨rfl, rfl⟩, ?_⟩
  unfold Tm.VRL Tm.VR
  refine ⟨⟨rfl, rfl⟩, ?_⟩
  unfold Tm.VRL
  trivial
set_option maxRecDepth 100000 in
theorem lifted (os : Os) (started : os.Started) (H : Type) (enc : TypeId × Value → H) :
    ReturnsInHanded {} Try.checked os 7 .any (Rows.prntApartSpec.pre6 enc Try.prog Try.f7 Rows.prntApartRow.domain false) (Rows.prntApartSpec.post enc Try.prog Try.f7 false true false false) := by
  refine returnsInHanded_of_change (C := Try.checked) own started (by kernel_rfl) Try.func7
    (ChangeSpec.witness6 (enc := enc) (C := Try.checked) false ⟨#[], #[.slice none 0 0, .slice none 0 0, .slice none 0 0, .int .i64 0, .bool false], []⟩ 8 (by kernel_rfl) (by kernel_rfl) (by kernel_rfl) (by kernel_rfl)) ?_
  intro W base args ds gs before hval0 hW hcnd _
  have hval : ∀ (j : Nat) t v, Try.f7.params[j]? = some t → args[j]? = some v → Value.okWide Try.prog W .any base t v := hval0
  have hW' := hW
  obtain ⟨p, q, hA0, hV, rfl, hfz, hnd⟩ := hW
  have hA : DataW.TrodAll enc Try.prog W 0 (fun _ => true) true Try.f7.params.toList args.toList ds p := hA0
  rw [Try.params7] at hA hval
  obtain ⟨v0, vs0, d0, ds0, p0, q0, hargs, rfl, rfl, h0, r0⟩ := trodAll_cons hA
  obtain ⟨v1, vs1, d1, ds1, p1, q1, rfl, rfl, rfl, h1, r1⟩ := trodAll_cons r0
  obtain ⟨v2, vs2, d2, ds2, p2, q2, rfl, rfl, rfl, h2, r2⟩ := trodAll_cons r1
  obtain ⟨v3, vs3, d3, ds3, p3, q3, rfl, rfl, rfl, h3, r3⟩ := trodAll_cons r2
  obtain ⟨v4, vs4, d4, ds4, p4, q4, rfl, rfl, rfl, h4, r4⟩ := trodAll_cons r3
  obtain ⟨rfl, rfl, rfl⟩ := trodAll_nil r4
  obtain rfl : args = #[v0, v1, v2, v3, v4] := by cases args; simp_all
  obtain ⟨rfl, rfl⟩ := trodVars_none hV
  obtain ⟨a0, len0, cap0, rfl⟩ := okWide_slice Try.underlying22 (hval 0 22 v0 rfl rfl)
  have k0 := h0
  have lt0 : ∀ x ∈ p0, x.block < W.heap.size := by obtain ⟨m, hm⟩ := k0; exact DataW.trod_lt m _ _ _ hm
  have w0 : IsInts W (.slice a0 len0 cap0) := by
    obtain ⟨fuel, hf⟩ := h0
    rcases open_ints Try.underlying22 Try.underlying3 (by kernel_rfl) hf with ⟨hcs, _⟩ | ⟨x, l, c, zs, hcs, _, hl, hm, hz, _, hcell, hwz⟩
    · simp [Value.cells] at hcs
      obtain ⟨rfl, rfl, rfl⟩ := hcs
      exact ⟨true, [], fun _ => rfl, by unfold Tm.VR; exact .inl ⟨rfl, rfl, rfl, rfl⟩⟩
    · simp [Value.cells] at hcs
      obtain ⟨rfl, rfl, rfl⟩ := hcs
      have hz2 : zs.length = cap0 := by simpa using hz
      have := CfgA.ints_vr hl hz2 hcell
      refine ⟨false, zs.take len0, fun h => by simp at h, ?_⟩
      have hlt : (zs.take len0).length = len0 := by simp; omega
      rw [hlt]; exact this
  obtain ⟨a1, len1, cap1, rfl⟩ := okWide_slice Try.underlying22 (hval 1 22 v1 rfl rfl)
  have k1 := h1
  have lt1 : ∀ x ∈ p1, x.block < W.heap.size := by obtain ⟨m, hm⟩ := k1; exact DataW.trod_lt m _ _ _ hm
  have w1 : IsInts W (.slice a1 len1 cap1) := by
    obtain ⟨fuel, hf⟩ := h1
    rcases open_ints Try.underlying22 Try.underlying3 (by kernel_rfl) hf with ⟨hcs, _⟩ | ⟨x, l, c, zs, hcs, _, hl, hm, hz, _, hcell, hwz⟩
    · simp [Value.cells] at hcs
      obtain ⟨rfl, rfl, rfl⟩ := hcs
      exact ⟨true, [], fun _ => rfl, by unfold Tm.VR; exact .inl ⟨rfl, rfl, rfl, rfl⟩⟩
    · simp [Value.cells] at hcs
      obtain ⟨rfl, rfl, rfl⟩ := hcs
      have hz2 : zs.length = cap1 := by simpa using hz
      have := CfgA.ints_vr hl hz2 hcell
      refine ⟨false, zs.take len1, fun h => by simp at h, ?_⟩
      have hlt : (zs.take len1).length = len1 := by simp; omega
      rw [hlt]; exact this
  obtain ⟨a2, len2, cap2, rfl⟩ := okWide_slice Try.underlying44 (hval 2 44 v2 rfl rfl)
  have k2 := h2
  have lt2 : ∀ x ∈ p2, x.block < W.heap.size := by obtain ⟨m, hm⟩ := k2; exact DataW.trod_lt m _ _ _ hm
  have w2 : IsRows W (.slice a2 len2 cap2) := by
    obtain ⟨fuel, hf⟩ := h2
    rcases Go.Deep.open_int_rows Try.underlying44 Try.underlying31 Try.underlying5 (by kernel_rfl) (by kernel_rfl) hf with ⟨hcs, _⟩ | ⟨x, l, c, A, L, C, Z, hcs, _, hl, hm, _, hr⟩
    · simp [Value.cells] at hcs
      obtain ⟨rfl, rfl, rfl⟩ := hcs
      exact ⟨true, [], fun _ => rfl, by unfold Tm.VR; exact .inl ⟨rfl, rfl, rfl, rfl⟩⟩
    · simp [Value.cells] at hcs
      obtain ⟨rfl, rfl, rfl⟩ := hcs
      obtain ⟨R, hR, hv⟩ := CfgA.rows_vr hl (fun r h => by
        obtain ⟨e1, e2, _, e3, e4, e5, e6⟩ := hr r h
        exact ⟨e1, e2, e3, e4, e5, fun a' ha => (e6 a' ha).2⟩)
      refine ⟨false, R, fun h => by simp at h, ?_⟩
      rw [hR]; exact hv
  obtain ⟨a3, rfl, rfl, rfl, w3⟩ := open_int Try.underlying3 (hval 3 3 v3 rfl rfl) h3
  obtain ⟨a4, rfl, rfl, rfl⟩ := open_bool Try.underlying4 (hval 4 4 v4 rfl rfl) h4
  clear hA0 hval0
  refine (walk _ _ _ a3 a4 W w0 w1 w2).mono fun e W' ⟨he, bel⟩ => ?_
  subst he
  exact ⟨_, rfl, _, _, _, [], _, [], hW', trodAll_mk1 (shut_bool Try.underlying4 _), (trodAll_cons_mk (Below.trod laidOut (by kernel_rfl) (of_decide_eq_true (by kernel_rfl)) k0 bel lt0) (trodAll_cons_mk (Below.trod laidOut (by kernel_rfl) (of_decide_eq_true (by kernel_rfl)) k1 bel lt1) (trodAll_cons_mk (Below.trod laidOut (by kernel_rfl) (of_decide_eq_true (by kernel_rfl)) k2 bel lt2) (trodAll_cons_mk (shut_int Try.underlying3 w3) (trodAll_cons_mk (shut_bool Try.underlying4 _) trodAll_mk0))))), rfl, bel.frame _, fun h => by cases h⟩
theorem over : Rows.prntApartRow.holds Try.pinned (OpenSpec.ofChange Rows.prntApartSpec) :=
  OpenClaim.holds_of_wide 7 Try.f7 rfl rfl rfl rfl rfl rfl rfl ⟨rfl, rfl, rfl, rfl, rfl⟩ rfl rfl rfl rfl rfl (by kernel_rfl) Try.func7 (by kernel_rfl)
    (of_decide_eq_true (by kernel_rfl)) (by unfold Func.isWrapper; first | (rw [if_pos (by decide +kernel)]; kernel_rfl) | (rw [if_neg (by decide +kernel)]; exact ⟨rfl, rfl⟩))
    (fun os started H enc _ => lifted os started H enc)
theorem proved : Rows.PrntApartSaid := over
end Go.Proofs.Ytgegmkkbplhnhaa.prntApart
end
