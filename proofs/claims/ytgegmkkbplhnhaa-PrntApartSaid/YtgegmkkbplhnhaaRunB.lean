/- What the reference functions compute, that they agree with the program, and the run of PrntApart. No conditions. -/
import Derived.Test.YtgegmkkbplhnhaaRunA
import Derived.Test.YtgegmkkbplhnhaaCodeA
import Derived.Deep.Matrix
section
namespace Go.Proofs.CfgA
open Go Go.Tm Go.Proofs
set_option maxRecDepth 100000
set_option linter.unusedSimpArgs false
/-! ### the reference's print -/
theorem rbytes_run {l x : List UInt8} {nl nl2 : Bool} {m k : Nat} {o o2 : Ow} {st : St} (hn : m = l.length) (hk : k = x.length) (hr : l.length + 6 + x.length ≤ roomB) :
    callI cfg 54 [.sl nl m (u8s l) o, .sl nl2 k (u8s x) o2] st = some (.sl false (m + 6 + k) (u8s (l ++ sixI k ++ x)) (.tok st.E.length), ⟨st.H, st.E ++ [m + 6 + k]⟩) := by
  subst hn hk
  have h1 := rnum_run (l := l) (nl := nl) (m := l.length) (o := closeO o) (n := x.length) (st := ⟨[], []⟩) rfl (by omega)
  by_cases hx : x = []
  · subst hx
    simp at h1
    simp [c54, h1, appV_noneS]
  · have hp : 0 < x.length := List.length_pos_iff.2 hx
    have ha := appV_tokS (n := 1) (m := l.length + 6) (cs := u8s (l ++ sixI x.length)) (j := 0) (st := ⟨[], [l.length + 6]⟩) (b := 1) (k := x.length) (ys := u8s x) (nl' := nl2) (o' := closeO o2) (by simp) (by simp) hp (by omega) rfl (.inl (by omega))
    simp at h1 ha
    simp [c54, h1, ha]
    rw [← u8s_append]
    simp
theorem rnum_nil {n : Int} {st : St} : callI cfg 53 [.sl true 0 [] .ex, .d (.int .i64 n)] st = some (.sl false 6 (u8s (sixI n)) (.tok st.E.length), ⟨st.H, st.E ++ [6]⟩) := by
  have := rnum_run (l := []) (nl := true) (m := 0) (o := .ex) (n := n) (st := st) rfl (by decide)
  simpa using this
theorem rbytes_nil {x : List UInt8} {nl2 : Bool} {k : Nat} {o2 : Ow} {st : St} (hk : k = x.length) (hr : 6 + x.length ≤ roomB) :
    callI cfg 54 [.sl true 0 [] .ex, .sl nl2 k (u8s x) o2] st = some (.sl false (6 + k) (u8s (sixI k ++ x)) (.tok st.E.length), ⟨st.H, st.E ++ [6 + k]⟩) := by
  have := rbytes_run (l := []) (x := x) (nl := true) (nl2 := nl2) (m := 0) (k := k) (o := .ex) (o2 := o2) (st := st) rfl hk (by simpa using hr)
  simpa using this
theorem loop55 (l : List DoV) (nl2 : Bool) (o2 : Ow) (hnl : nl2 = true → l = []) (hm : l.length ≤ 1000000): ∀ (suf pre : List DoV) (a R : List UInt8) (m k : Nat) (i : Int) (o : Ow) (E : List Nat), l = pre ++ suf → m = a.length → R = a ++ dosB suf → k = R.length → i = pre.length → R.length ≤ roomB →
    ∃ o' E' fr, runI cfg 55 n55_8 [(0, .sl nl2 l.length (dosD l) o2), (3, .sl false m (u8s a) o), (4, .d (.int .i64 i))] ⟨[], E⟩ =
      some (.exit 0, (0, .sl nl2 l.length (dosD l) o2) :: (3, .sl false k (u8s R) o') :: fr, ⟨[], E'⟩)
  | [], pre, a, R, m, k, i, o, E, hl, h1, h2, h3, h4, hr => by
    subst h1 h2 h3 h4
    simp [l55_8, dosB, hl]
  | d :: suf, pre, a, R, m, k, i, o, E, hl, h1, h2, h3, h4, hr => by
    subst h1 h2 h3 h4
    have hi : pre.length < l.length := by rw [hl]; simp
    have hi' : (pre.length : Int) < l.length := by omega
    have hg : l[pre.length] = d := by simp [hl]
    have hnl' : nl2 = false := by cases nl2 with | false => rfl | true => exact absurd (hnl rfl) (by rw [hl]; simp)
    subst hnl'
    have hp := dosD_piece l pre.length hi
    rw [hg] at hp
    rw [dosB_cons] at hr ⊢
    have hd := doB_length d
    simp only [List.length_append, hd] at hr
    have hix := ixV_sl (n := 3) (m := l.length) (cs := dosD l) (o := o2) (k := .i64) (i := (pre.length : Int)) (by omega) hi'
    simp only [Int.toNat_natCast] at hix
    have hw : IntKind.i64.wrap ((pre.length : Int) + 1) = pre.length + 1 := w64 (by omega) (by omega)
    obtain ⟨q1, q2, q3⟩ := dosD_get l pre.length hi
    rw [hg] at q1 q2 q3
    obtain ⟨kd, n, s⟩ := d
    have hsz : s.data.toList.length = s.size := by simp
    simp only at hr hd
    have k1 := rnum_run (l := a) (nl := false) (m := a.length) (o := o) (n := kd) (st := ⟨[], E⟩) rfl (by omega)
    have k2 := rnum_run (l := a ++ sixI kd) (nl := false) (m := a.length + 6) (o := .tok E.length) (n := n) (st := ⟨[], E ++ [a.length + 6]⟩) (by simp) (by simp; omega)
    have k3 := rbytes_run (l := a ++ sixI kd ++ sixI n) (x := s.data.toList) (nl := false) (nl2 := false) (m := a.length + 6 + 6) (k := s.size) (o := .tok (E ++ [a.length + 6]).length) (o2 := .ro) (st := ⟨[], E ++ [a.length + 6] ++ [a.length + 6 + 6]⟩) (by simp) (by simp) (by simp; omega)
    obtain ⟨o', E', fr, ih⟩ := loop55 l false o2 hnl hm suf (pre ++ [⟨kd, n, s⟩]) (a ++ sixI kd ++ sixI n ++ sixI s.size ++ s.data.toList) (a ++ (doB ⟨kd, n, s⟩ ++ dosB suf)) (a.length + 6 + 6 + 6 + s.size) _ ((pre.length : Int) + 1) (.tok (E ++ [a.length + 6] ++ [a.length + 6 + 6]).length) (E ++ [a.length + 6] ++ [a.length + 6 + 6] ++ [a.length + 6 + 6 + 6 + s.size]) (by simp [hl]) (by simp; omega) (by simp [doB]) rfl (by simp) (by simp [hd]; omega)
    refine ⟨o', E', fr, ?_⟩
    rw [l55_8]
    simp at k1 k2 k3 hp
    simp [hi', hix, q1, q2, q3, k1, k2, k3, conv_sb, hw]
    rw [gcT_stay (by simp)]
    simpa using ih
theorem ractbytes_run {l : List DoV} {nl : Bool} {n : Nat} {o : Ow} {st : St} (hn : n = l.length) (hnl : nl = true → l = []) (hm : l.length ≤ 1000000) (hr : (actB l).length ≤ roomB) :
    ∃ o' E', callI cfg 55 [.sl nl n (dosD l) o] st = some (.sl false (actB l).length (u8s (actB l)) o', ⟨st.H, E'⟩) := by
  subst hn
  simp only [actB, List.length_append, sixI_length] at hr
  obtain ⟨o1, E1, fr, h⟩ := loop55 l nl (closeO o) hnl hm l [] (sixI l.length) (actB l) 6 (actB l).length 0 (.tok 0) [6] rfl rfl rfl rfl rfl (by simp [actB]; omega)
  obtain ⟨o2, E2, h2⟩ := ret_sl (s := ⟨[], E1⟩) (st := st) (nl := false) (n := (actB l).length) (cs := u8s (actB l)) (o := o1)
  refine ⟨o2, E2, ?_⟩
  have h0 := rnum_nil (n := l.length) (st := ⟨[], []⟩)
  simp at h0
  simp [c55, h0, h, h2]
theorem loop22 (l : List Row) (nl2 : Bool) (o2 : Ow) (hnl : nl2 = true → l = []) (hm : l.length ≤ 1000000) : ∀ (suf pre : List Row) (a R : List UInt8) (m k : Nat) (i : Int) (o : Ow) (E : List Nat), l = pre ++ suf → m = a.length → R = a ++ rowsB suf → k = R.length → i = pre.length → R.length ≤ roomB →
    ∃ o' E' fr, runI cfg 22 n22_8 [(1, .sl nl2 l.length (rowsD l) o2), (5, .sl false m (u8s a) o), (6, .d (.int .i64 i))] ⟨[], E⟩ =
      some (.exit 0, (1, .sl nl2 l.length (rowsD l) o2) :: (5, .sl false k (u8s R) o') :: fr, ⟨[], E'⟩)
  | [], pre, a, R, m, k, i, o, E, hl, h1, h2, h3, h4, hr => by
    subst h1 h2 h3 h4
    simp [l22_8, rowsB, hl]
  | d :: suf, pre, a, R, m, k, i, o, E, hl, h1, h2, h3, h4, hr => by
    subst h1 h2 h3 h4
    have hi : pre.length < l.length := by rw [hl]; simp
    have hi' : (pre.length : Int) < l.length := by omega
    have hg : l[pre.length]? = some d := by simp [hl]
    have hg2 : l[pre.length] = d := by simp [hl]
    have hnl' : nl2 = false := by cases nl2 with | false => rfl | true => exact absurd (hnl rfl) (by rw [hl]; simp)
    subst hnl'
    rw [rowsB_cons] at hr ⊢
    have hd := rowB_length d.2
    simp only [List.length_append, hd] at hr
    have hix := ixV_sl (n := 1) (m := l.length) (cs := rowsD l) (o := o2) (k := .i64) (i := (pre.length : Int)) (by omega) hi'
    simp only [Int.toNat_natCast, Nat.mul_one] at hix
    have hw : IntKind.i64.wrap ((pre.length : Int) + 1) = pre.length + 1 := w64 (by omega) (by omega)
    have k1 := rbytes_run (l := a) (x := d.2) (nl := false) (nl2 := d.1 && d.2.isEmpty) (m := a.length) (k := d.2.length) (o := o) (o2 := .ro) (st := ⟨[], E⟩) rfl rfl (by omega)
    obtain ⟨o', E', fr, ih⟩ := loop22 l false o2 hnl hm suf (pre ++ [d]) (a ++ sixI d.2.length ++ d.2) (a ++ (rowB d.2 ++ rowsB suf)) (a.length + 6 + d.2.length) _ ((pre.length : Int) + 1) (.tok E.length) (E ++ [a.length + 6 + d.2.length]) (by simp [hl]) (by simp; omega) (by simp [rowB]) rfl (by simp) (by simp [hd]; omega)
    refine ⟨o', E', fr, ?_⟩
    rw [l22_8]
    simp at k1
    simp [hi', hix, hg, hg2, k1, hw]
    rw [gcT_stay (by simp)]
    simpa using ih
theorem rprint_run {l : List DoV} {ins : List Row} {nl nl2 : Bool} {n n2 : Nat} {o o2 : Ow} {st : St} (hn : n = l.length) (hnl : nl = true → l = []) (hm : l.length ≤ 1000000) (hn2 : n2 = ins.length) (hnl2 : nl2 = true → ins = []) (hm2 : ins.length ≤ 1000000) (hr : (prnB l ins).length ≤ roomB) :
    ∃ o' E', callI cfg 22 [.sl nl n (dosD l) o, .sl nl2 n2 (rowsD ins) o2] st = some (.sl false (prnB l ins).length (u8s (prnB l ins)) o', ⟨st.H, E'⟩) := by
  subst hn hn2
  have hr' := hr
  rw [prnB_length] at hr'
  obtain ⟨oa, Ea, ha⟩ := ractbytes_run (l := l) (nl := nl) (n := l.length) (o := closeO o) (st := ⟨[], []⟩) rfl hnl hm (by omega)
  obtain ⟨o1, E1, fr, h⟩ := loop22 ins nl2 (closeO o2) hnl2 hm2 ins [] (rowB (actB l) ++ sixI ins.length) (prnB l ins) (6 + (actB l).length + 6) (prnB l ins).length 0 (.tok (Ea.length + 1)) (Ea ++ [6 + (actB l).length, 6 + (actB l).length + 6]) rfl (by simp [rowB]; omega) rfl rfl rfl hr
  obtain ⟨o3, E2, h2⟩ := ret_sl (s := ⟨[], E1⟩) (st := st) (nl := false) (n := (prnB l ins).length) (cs := u8s (prnB l ins)) (o := o1)
  refine ⟨o3, E2, ?_⟩
  have hb := rbytes_nil (x := actB l) (nl2 := false) (k := (actB l).length) (o2 := oa) (st := ⟨[], Ea⟩) rfl (by omega)
  have hc := rnum_run (l := rowB (actB l)) (nl := false) (m := 6 + (actB l).length) (o := .tok Ea.length) (n := ins.length) (st := ⟨[], Ea ++ [6 + (actB l).length]⟩) (by simp [rowB]) (by simp [rowB]; omega)
  simp only [rowB] at hb hc h
  simp at hb hc h
  simp [c22, ha, hb, hc, h, h2]
end Go.Proofs.CfgA
end
section
namespace Go.Proofs.CfgA
open Go Go.Tm Go.Proofs
set_option maxRecDepth 100000
set_option linter.unusedSimpArgs false
/-! ### the reference's run -/
theorem app_row {st : St} {m : Nat} {nl nl' : Bool} {cs : List D} {o o' : Ow} {x : List UInt8} (h : Own st.E nl m o) (hc : cs.length = m) (hr : m + x.length ≤ roomB) :
    ∃ nl2 o2 E2, appV 1 1 st (.sl nl m cs o) (.sl nl' x.length (u8s x) o') = some (.sl nl2 (m + x.length) (cs ++ u8s x) o2, E2) ∧ Own E2 nl2 (m + x.length) o2 ∧ (nl2 = true → nl = true ∧ x = []) := by
  by_cases hx : x = []
  · subst hx
    refine ⟨nl, o, st.E, ?_, by simpa using h, fun hn => ⟨hn, rfl⟩⟩
    have := appV_noneS (n := 1) (m := m) (cs := cs) (nl := nl) (o := o) (st := st) (b := 1) (nl' := nl') (o' := o') (by omega)
    simpa using this
  · have hp : 0 < x.length := List.length_pos_iff.2 hx
    obtain ⟨o2, E2, h1, h2⟩ := app_own (st := st) (n := 1) (b := 1) (k := x.length) (cs := cs) (ys := u8s x) (nl' := nl') (o' := o') h (by omega) (by simp) hp (by omega)
    exact ⟨false, o2, E2, h1, h2, fun h => by simp at h⟩
theorem loop61a (l : List Row) (nl2 : Bool) (o2 : Ow) (hnl : nl2 = true → l = []) (hm : l.length ≤ 1000000) (H : List Box) : ∀ (suf pre : List Row) (a R : List UInt8) (m k : Nat) (i : Int) (nl : Bool) (o : Ow) (E : List Nat), l = pre ++ suf → m = a.length → R = a ++ (suf.map (·.2)).flatten → k = R.length → i = pre.length → R.length ≤ roomB → Own E nl m o → (nl = true → a = []) →
    ∃ nl' o' E' fr, runI cfg 61 n61_34 [(2, .sl nl2 l.length (rowsD l) o2), (8, .sl nl m (u8s a) o), (9, .d (.int .i64 i))] ⟨H, E⟩ =
      some (.exit 1, (2, .sl nl2 l.length (rowsD l) o2) :: (8, .sl nl' k (u8s R) o') :: fr, ⟨H, E'⟩) ∧ (nl' = true → R = [])
  | [], pre, a, R, m, k, i, nl, o, E, hl, h1, h2, h3, h4, hr, ho, hna => by
    simp at h2
    subst h1 h2 h3 h4
    refine ⟨nl, o, E, ?_⟩
    simp [l61_34, hl]
    exact hna
  | d :: suf, pre, a, R, m, k, i, nl, o, E, hl, h1, h2, h3, h4, hr, ho, hna => by
    subst h1 h3 h4
    have hi : pre.length < l.length := by rw [hl]; simp
    have hi' : (pre.length : Int) < l.length := by omega
    have hg : l[pre.length]? = some d := by simp [hl]
    have hg2 : l[pre.length] = d := by simp [hl]
    have hnl' : nl2 = false := by cases nl2 with | false => rfl | true => exact absurd (hnl rfl) (by rw [hl]; simp)
    subst hnl'
    have hrl := hr
    rw [h2] at hrl
    simp only [List.map_cons, List.flatten_cons, List.length_append] at hrl
    have hix := ixV_sl (n := 1) (m := l.length) (cs := rowsD l) (o := o2) (k := .i64) (i := (pre.length : Int)) (by omega) hi'
    simp only [Int.toNat_natCast, Nat.mul_one] at hix
    have hw : IntKind.i64.wrap ((pre.length : Int) + 1) = pre.length + 1 := w64 (by omega) (by omega)
    obtain ⟨nl1, o1, E1, ha, hown, hn1⟩ := app_row (st := ⟨H, E⟩) (m := a.length) (cs := u8s a) (nl' := d.1 && d.2.isEmpty) (o' := .ro) (x := d.2) ho (by simp) (by omega)
    obtain ⟨nl', o', E', fr, ih, ihn⟩ := loop61a l false o2 hnl hm H suf (pre ++ [d]) (a ++ d.2) R (a.length + d.2.length) R.length ((pre.length : Int) + 1) nl1 o1 E1 (by simp [hl]) (by simp) (by rw [h2]; simp) rfl (by simp) hr hown (fun h => by simp [hna (hn1 h).1, (hn1 h).2])
    refine ⟨nl', o', E', fr, ?_, ihn⟩
    rw [u8s_append] at ih
    rw [l61_34]
    simp [hi', hix, hg, hg2, ha, hw]
    rw [gcT_stay (by simp)]
    simpa using ih
def upC (k : Int) (c : UInt8) : UInt8 := if k = 4 then turnC 97 122 (-32) c else turnC 65 90 32 c
theorem u8c_one (c : UInt8) : [D.flat (.int .u8 c.toNat)] = u8s [c] := rfl
theorem loop61u (k n0 : Int) (hk : k = 4 ∨ k = 5) (s : ByteArray) (b : List UInt8) (nl2 : Bool) (o2 : Ow) (hnl : nl2 = true → b = []) (hm : b.length ≤ 1000000) : ∀ (suf pre a R : List UInt8) (m r : Nat) (i : Int) (nl : Bool) (o : Ow) (E : List Nat), b = pre ++ suf → m = a.length → R = a ++ suf.map (upC k) → r = R.length → i = pre.length → R.length ≤ roomB → Own E nl m o → (nl = true → a = []) →
    ∃ nl' o' E' fr, runI cfg 61 n61_55 [(1, .sl nl2 b.length (u8s b) o2), (3, .ptr 0 0), (8, .sl nl m (u8s a) o), (10, .d (.int .i64 i))] ⟨[.cells [.d (.int .i64 k), .d (.int .i64 n0), .d (.string s)]], E⟩ =
      some (.exit 3, (1, .sl nl2 b.length (u8s b) o2) :: (3, .ptr 0 0) :: (8, .sl nl' r (u8s R) o') :: fr, ⟨[.cells [.d (.int .i64 k), .d (.int .i64 n0), .d (.string s)]], E'⟩) ∧ (nl' = true → R = [])
  | [], pre, a, R, m, r, i, nl, o, E, hl, h1, h2, h3, h4, hr, ho, hna => by
    simp at h2
    subst h1 h2 h3 h4
    refine ⟨nl, o, E, ?_⟩
    simp [l61_55, hl]
    exact hna
  | c :: suf, pre, a, R, m, r, i, nl, o, E, hl, h1, h2, h3, h4, hr, ho, hna => by
    subst h1 h3 h4
    have hi : pre.length < b.length := by rw [hl]; simp
    have hi' : (pre.length : Int) < b.length := by omega
    have hg : b[pre.length]? = some c := by simp [hl]
    have hg2 : b[pre.length] = c := by simp [hl]
    have hnl' : nl2 = false := by cases nl2 with | false => rfl | true => exact absurd (hnl rfl) (by rw [hl]; simp)
    subst hnl'
    have hrl := hr
    rw [h2] at hrl
    simp only [List.map_cons, List.length_append, List.length_cons] at hrl
    have hix := ixV_sl (n := 1) (m := b.length) (cs := u8s b) (o := o2) (k := .i64) (i := (pre.length : Int)) (by omega) hi'
    simp only [Int.toNat_natCast, Nat.mul_one] at hix
    have hw : IntKind.i64.wrap ((pre.length : Int) + 1) = pre.length + 1 := w64 (by omega) (by omega)
    obtain ⟨o3, E3, ha, hown⟩ := app_own (st := ⟨[.cells [.d (.int .i64 k), .d (.int .i64 n0), .d (.string s)]], E⟩) (n := 1) (b := 1) (k := 1) (cs := u8s a) (ys := [D.flat (.int .u8 (upC k c).toNat)]) (nl' := false) (o' := .lit) ho (by simp) rfl (by omega) (by omega)
    obtain ⟨nl', o', E', fr, ih, ihn⟩ := loop61u k n0 hk s b false o2 hnl hm suf (pre ++ [c]) (a ++ [upC k c]) R (a.length + 1) R.length ((pre.length : Int) + 1) false o3 E3 (by simp [hl]) (by simp) (by rw [h2]; simp) rfl (by simp) hr hown (fun h => by simp at h)
    refine ⟨nl', o', E', fr, ?_, ihn⟩
    rw [u8s_append, ← u8c_one] at ih
    rw [l61_55]
    have hwr : ∀ y : Int, IntKind.u8.wrap y = (ub y).toNat := fun y => by rw [wrap8, ub_nat]
    rcases hk with rfl | rfl
    · by_cases c1 : 97 ≤ (c.toNat : Int)
      · by_cases c2 : (c.toNat : Int) ≤ 122
        · have hu : upC 4 c = ub ((c.toNat : Int) - 32) := by simp [upC, turnC, c1, c2, Int.sub_eq_add_neg]
          rw [hu] at ih ha
          simp [hi', hix, hg, hg2, c1, c2, hwr, putAt, ha, hw]
          rw [gcT_stay (by simp)]
          simpa using ih
        · have hu : upC 4 c = c := by simp [upC, turnC, c2]
          rw [hu] at ih ha
          simp [hi', hix, hg, hg2, c1, c2, putAt, ha, hw]
          rw [gcT_stay (by simp)]
          simpa using ih
      · have hu : upC 4 c = c := by simp [upC, turnC, c1]
        rw [hu] at ih ha
        simp [hi', hix, hg, hg2, c1, putAt, ha, hw]
        rw [gcT_stay (by simp)]
        simpa using ih
    · by_cases c1 : 65 ≤ (c.toNat : Int)
      · by_cases c2 : (c.toNat : Int) ≤ 90
        · have hu : upC 5 c = ub ((c.toNat : Int) + 32) := by simp [upC, turnC, c1, c2]
          rw [hu] at ih ha
          simp [hi', hix, hg, hg2, c1, c2, hwr, putAt, ha, hw]
          rw [gcT_stay (by simp)]
          simpa using ih
        · have hu : upC 5 c = c := by simp [upC, turnC, c2]
          rw [hu] at ih ha
          simp [hi', hix, hg, hg2, c1, c2, putAt, ha, hw]
          rw [gcT_stay (by simp)]
          simpa using ih
      · have hu : upC 5 c = c := by simp [upC, turnC, c1]
        rw [hu] at ih ha
        simp [hi', hix, hg, hg2, c1, putAt, ha, hw]
        rw [gcT_stay (by simp)]
        simpa using ih
theorem loop61r (b : List UInt8) (nl2 : Bool) (o2 : Ow) (hnl : nl2 = true → b = []) (hm : b.length ≤ 1000000) (H : List Box) : ∀ (pre suf a R : List UInt8) (m r : Nat) (i : Int) (nl : Bool) (o : Ow) (E : List Nat), b = pre.reverse ++ suf → m = a.length → R = a ++ pre → r = R.length → i = (pre.length : Int) - 1 → R.length ≤ roomB → Own E nl m o → (nl = true → a = []) →
    ∃ nl' o' E' fr, runI cfg 61 n61_86 [(1, .sl nl2 b.length (u8s b) o2), (8, .sl nl m (u8s a) o), (12, .d (.int .i64 i))] ⟨H, E⟩ =
      some (.exit 5, (1, .sl nl2 b.length (u8s b) o2) :: (8, .sl nl' r (u8s R) o') :: fr, ⟨H, E'⟩) ∧ (nl' = true → R = [])
  | [], suf, a, R, m, r, i, nl, o, E, hl, h1, h2, h3, h4, hr, ho, hna => by
    simp at h2
    subst h1 h2 h3 h4
    refine ⟨nl, o, E, ?_⟩
    simp [l61_86]
    exact hna
  | c :: pre, suf, a, R, m, r, i, nl, o, E, hl, h1, h2, h3, h4, hr, ho, hna => by
    subst h1 h3
    have hi0 : i = pre.length := by rw [h4]; simp
    subst hi0
    have hi : pre.length < b.length := by rw [hl]; simp
    have hi' : (pre.length : Int) < b.length := by omega
    have hg : b[pre.length]? = some c := by simp [hl]
    have hg2 : b[pre.length] = c := by simp [hl]
    have hnl' : nl2 = false := by cases nl2 with | false => rfl | true => exact absurd (hnl rfl) (by rw [hl]; simp)
    subst hnl'
    have hrl := hr
    rw [h2] at hrl
    simp only [List.length_append, List.length_cons] at hrl
    have hix := ixV_sl (n := 1) (m := b.length) (cs := u8s b) (o := o2) (k := .i64) (i := (pre.length : Int)) (by omega) hi'
    simp only [Int.toNat_natCast, Nat.mul_one] at hix
    have hw : IntKind.i64.wrap ((pre.length : Int) - 1) = pre.length - 1 := w64 (by omega) (by omega)
    have hge : (0 : Int) ≤ pre.length := by omega
    obtain ⟨o3, E3, ha, hown⟩ := app_own (st := ⟨H, E⟩) (n := 1) (b := 1) (k := 1) (cs := u8s a) (ys := [D.flat (.int .u8 c.toNat)]) (nl' := false) (o' := .lit) ho (by simp) rfl (by omega) (by omega)
    obtain ⟨nl', o', E', fr, ih, ihn⟩ := loop61r b false o2 hnl hm H pre (c :: suf) (a ++ [c]) R (a.length + 1) R.length ((pre.length : Int) - 1) false o3 E3 (by simp [hl]) (by simp) (by rw [h2]; simp) rfl rfl hr hown (fun h => by simp at h)
    refine ⟨nl', o', E', fr, ?_, ihn⟩
    rw [u8s_append, ← u8c_one] at ih
    rw [l61_86]
    simp [hi', hix, hg, hg2, hge, putAt, ha, hw]
    rw [gcT_stay (by simp)]
    simpa using ih
theorem loop61j (k n0 : Int) (s : ByteArray) (b : List UInt8) (nl2 : Bool) (o2 : Ow) (hnl : nl2 = true → b = []) (hm : b.length ≤ 1000000) : ∀ (suf pre a R : List UInt8) (m r : Nat) (i : Int) (nl : Bool) (o : Ow) (E : List Nat), b = pre ++ suf → m = a.length → R = a ++ joinF pre.isEmpty s.data.toList suf → r = R.length → i = pre.length → R.length ≤ roomB → Own E nl m o → (nl = true → a = []) →
    ∃ nl' o' E' fr, runI cfg 61 n61_115 [(1, .sl nl2 b.length (u8s b) o2), (3, .ptr 0 0), (8, .sl nl m (u8s a) o), (13, .d (.int .i64 i))] ⟨[.cells [.d (.int .i64 k), .d (.int .i64 n0), .d (.string s)]], E⟩ =
      some (.exit 7, (1, .sl nl2 b.length (u8s b) o2) :: (3, .ptr 0 0) :: (8, .sl nl' r (u8s R) o') :: fr, ⟨[.cells [.d (.int .i64 k), .d (.int .i64 n0), .d (.string s)]], E'⟩) ∧ (nl' = true → R = [])
  | [], pre, a, R, m, r, i, nl, o, E, hl, h1, h2, h3, h4, hr, ho, hna => by
    simp [joinF] at h2
    subst h1 h2 h3 h4
    refine ⟨nl, o, E, ?_⟩
    simp [l61_115, hl]
    exact hna
  | c :: suf, pre, a, R, m, r, i, nl, o, E, hl, h1, h2, h3, h4, hr, ho, hna => by
    subst h1 h3 h4
    have hi : pre.length < b.length := by rw [hl]; simp
    have hi' : (pre.length : Int) < b.length := by omega
    have hg : b[pre.length]? = some c := by simp [hl]
    have hg2 : b[pre.length] = c := by simp [hl]
    have hnl' : nl2 = false := by cases nl2 with | false => rfl | true => exact absurd (hnl rfl) (by rw [hl]; simp)
    subst hnl'
    have hix := ixV_sl (n := 1) (m := b.length) (cs := u8s b) (o := o2) (k := .i64) (i := (pre.length : Int)) (by omega) hi'
    simp only [Int.toNat_natCast, Nat.mul_one] at hix
    have hw : IntKind.i64.wrap ((pre.length : Int) + 1) = pre.length + 1 := w64 (by omega) (by omega)
    cases pre with
    | nil =>
      simp only [List.isEmpty_nil, joinF] at h2
      have hrl := hr
      rw [h2] at hrl
      simp only [List.length_append, List.length_cons] at hrl
      obtain ⟨o3, E3, ha, hown⟩ := app_own (st := ⟨[.cells [.d (.int .i64 k), .d (.int .i64 n0), .d (.string s)]], E⟩) (n := 1) (b := 1) (k := 1) (cs := u8s a) (ys := [D.flat (.int .u8 c.toNat)]) (nl' := false) (o' := .lit) ho (by simp) rfl (by omega) (by omega)
      obtain ⟨nl', o', E', fr, ih, ihn⟩ := loop61j k n0 s b false o2 hnl hm suf [c] (a ++ [c]) R (a.length + 1) R.length 1 false o3 E3 (by simp [hl]) (by simp) (by rw [h2]; simp) rfl (by simp) hr hown (by simp)
      refine ⟨nl', o', E', fr, ?_, ihn⟩
      rw [u8s_append, ← u8c_one] at ih
      simp at hix hg hg2 hw hi'
      rw [l61_115]
      simp [hi', hix, hg, hg2, putAt, ha, hw]
      rw [gcT_stay (by simp)]
      simpa using ih
    | cons p0 pre0 =>
      simp only [List.isEmpty_cons, joinF] at h2
      have hrl := hr
      rw [h2] at hrl
      simp only [List.length_append, List.length_cons] at hrl
      have hsz : s.data.toList.length = s.size := by simp
      obtain ⟨nl1, o1, E1, hs1, hown1, hn1⟩ := app_str (st := ⟨[.cells [.d (.int .i64 k), .d (.int .i64 n0), .d (.string s)]], E⟩) (m := a.length) (cs := u8s a) (s := s) ho (by simp) (by omega)
      obtain ⟨o3, E3, ha, hown⟩ := app_own (st := ⟨[.cells [.d (.int .i64 k), .d (.int .i64 n0), .d (.string s)]], E1⟩) (n := 1) (b := 1) (k := 1) (cs := u8s a ++ u8s s.data.toList) (ys := [D.flat (.int .u8 c.toNat)]) (nl' := false) (o' := .lit) hown1 (by simp) rfl (by omega) (by omega)
      obtain ⟨nl', o', E', fr, ih, ihn⟩ := loop61j k n0 s b false o2 hnl hm suf (p0 :: pre0 ++ [c]) (a ++ s.data.toList ++ [c]) R (a.length + s.size + 1) R.length (((p0 :: pre0).length : Int) + 1) false o3 E3 (by simp [hl]) (by simp; omega) (by rw [h2]; simp) rfl (by simp) hr hown (by simp)
      refine ⟨nl', o', E', fr, ?_, ihn⟩
      rw [u8s_append, u8s_append, ← u8c_one] at ih
      have hpos : 0 < (p0 :: pre0).length := by simp
      rw [l61_115]
      generalize ((p0 :: pre0).length) = pl at *
      simp [hi', hix, hg, hg2, putAt, hs1, ha, hw, hpos]
      rw [gcT_stay (by simp)]
      simpa using ih
end Go.Proofs.CfgA
end
section
namespace Go.Proofs.CfgA
open Go Go.Tm Go.Proofs
set_option maxRecDepth 100000
set_option linter.unusedSimpArgs false
theorem changed_run {d : DoV} {ins : List Row} {b : List UInt8} {nl nl2 : Bool} {n n2 : Nat} {o o2 : Ow} {st : St} (h0 : 0 ≤ d.n) (hk1 : 1 ≤ d.kind) (hk2 : d.kind ≤ 11) (ht : d.text.size ≤ 1000) (hn2 : n2 = ins.length) (hnl2 : nl2 = true → ins = []) (hrow : ∀ r ∈ ins, r.2.length ≤ roomB) (hcnt : ins.length ≤ 1000000) (hsum : (ins.map (·.2)).flatten.length ≤ roomB)
    (hn : n = b.length) (hnl : nl = true → b = []) (hb : b.length ≤ 1000) :
    ∃ nl' o' E', callI cfg 61 [.agg d.t, .sl nl n (u8s b) o, .sl nl2 n2 (rowsD ins) o2] st =
      some (.tup [.sl nl' ((stepB d (ins.map (·.2)) b).getD []).length (u8s ((stepB d (ins.map (·.2)) b).getD [])) o', .d (.bool (stepB d (ins.map (·.2)) b).isSome)], ⟨st.H, E'⟩) ∧ (nl' = true → (stepB d (ins.map (·.2)) b).getD [] = []) := by
  subst hn hn2
  obtain ⟨k, m, s⟩ := d
  simp only at h0 ht hk1 hk2
  have hbr : b.length ≤ roomB := by unfold roomB; omega
  by_cases h1 : k = 1
  · subst h1
    exact ⟨false, .ro, st.E, by simp [c61, DoV.t, stepB, conv_sb], by simp⟩
  by_cases h2 : k = 2
  · subst h2
    obtain ⟨j, rfl⟩ := Int.eq_ofNat_of_zero_le h0
    by_cases hj : j < ins.length
    · have hj' : ¬ ((ins.length : Int) ≤ j) := by omega
      have hnl2' : nl2 = false := by cases nl2 with | false => rfl | true => exact absurd (hnl2 rfl) (by intro h; rw [h] at hj; simp at hj)
      subst hnl2'
      have hix := ixV_sl (n := 1) (m := ins.length) (cs := rowsD ins) (o := closeO o2) (k := .i64) (i := (j : Int)) (by omega) (by omega)
      simp only [Int.toNat_natCast, Nat.mul_one] at hix
      have hg : ins[j]? = some ins[j] := List.getElem?_eq_getElem hj
      obtain ⟨nl1, o1, E1, ha, _, hn1⟩ := app_row (st := ⟨[.cells [.d (.int .i64 2), .d (.int .i64 j), .d (.string s)]], []⟩) (m := 0) (nl := false) (cs := []) (o := .lit) (nl' := ins[j].1 && ins[j].2.isEmpty) (o' := .ro) (x := ins[j].2) (.inr (.inl rfl)) rfl (by have := hrow _ (List.getElem_mem hj); omega)
      obtain ⟨o3, E3, hret⟩ := ret_sl (s := ⟨[.cells [.d (.int .i64 2), .d (.int .i64 j), .d (.string s)]], E1⟩) (st := st) (nl := nl1) (n := ins[j].2.length) (cs := u8s ins[j].2) (o := o1)
      have hst : stepB ⟨2, (j : Int), s⟩ (ins.map (·.2)) b = some ins[j].2 := by simp [stepB, hg]
      rw [hst]
      refine ⟨nl1, o3, E3, ?_, fun h => (hn1 h).2⟩
      simp at ha
      simp [c61, DoV.t, hj', hix, hj, putAt, repeatL, ha, hret]
    · have hj' : ((ins.length : Int) ≤ j) := by omega
      have hst : stepB ⟨2, (j : Int), s⟩ (ins.map (·.2)) b = none := by simp [stepB]; omega
      rw [hst]
      exact ⟨true, .ex, st.E, by simp [c61, DoV.t, hj'], by simp⟩
  by_cases h3 : k = 3
  · subst h3
    obtain ⟨nl', o', E', fr, hl, hn⟩ := loop61a ins nl2 (closeO o2) hnl2 hcnt [.cells [.d (.int .i64 3), .d (.int .i64 m), .d (.string s)]] ins [] [] (ins.map (·.2)).flatten 0 _ 0 true .ex [] rfl rfl rfl rfl rfl hsum own_ex (by simp)
    obtain ⟨o3, E3, hret⟩ := ret_sl (s := ⟨[.cells [.d (.int .i64 3), .d (.int .i64 m), .d (.string s)]], E'⟩) (st := st) (nl := nl') (n := (ins.map (·.2)).flatten.length) (cs := u8s (ins.map (·.2)).flatten) (o := o')
    have hst : stepB ⟨3, m, s⟩ (ins.map (·.2)) b = some (ins.map (·.2)).flatten := by simp [stepB]
    rw [hst]
    refine ⟨nl', o3, E3, ?_, hn⟩
    rw [u8s_nil] at hl
    simp only [Option.getD_some, Option.isSome_some]
    generalize (ins.map (·.2)).flatten = x at *
    simp [c61, DoV.t, hl, hret]
  by_cases h45 : k = 4 ∨ k = 5
  · obtain ⟨nl', o', E', fr, hl, hn⟩ := loop61u k m h45 s b nl (closeO o) hnl (by omega) b [] [] (b.map (upC k)) 0 _ 0 true .ex [] rfl rfl rfl rfl rfl (by simpa using hbr) own_ex (by simp)
    obtain ⟨o3, E3, hret⟩ := ret_sl (s := ⟨[.cells [.d (.int .i64 k), .d (.int .i64 m), .d (.string s)]], E'⟩) (st := st) (nl := nl') (n := (b.map (upC k)).length) (cs := u8s (b.map (upC k))) (o := o')
    have hst : stepB ⟨k, m, s⟩ (ins.map (·.2)) b = some (b.map (upC k)) := by
      rcases h45 with rfl | rfl
      · simp [stepB, upC]
      · simp [stepB, upC]
    rw [hst]
    refine ⟨nl', o3, E3, ?_, hn⟩
    rw [u8s_nil] at hl
    simp only [Option.getD_some, Option.isSome_some]
    generalize b.map (upC k) = x at *
    rcases h45 with rfl | rfl
    · simp [c61, DoV.t, hl, hret]
    · simp [c61, DoV.t, hl, hret]
  have h4 : ¬ k = 4 := fun h => h45 (.inl h)
  have h5 : ¬ k = 5 := fun h => h45 (.inr h)
  by_cases h6 : k = 6
  · subst h6
    have hst : stepB ⟨6, m, s⟩ (ins.map (·.2)) b = some b.reverse := by simp [stepB]
    rw [hst]
    obtain ⟨nl', o', E', fr, hl, hn⟩ := loop61r b nl (closeO o) hnl (by omega) [.cells [.d (.int .i64 6), .d (.int .i64 m), .d (.string s)]] b.reverse [] [] b.reverse 0 _ ((b.length : Int) - 1) true .ex [] (by simp) rfl rfl rfl (by simp) (by simpa using hbr) own_ex (by simp)
    obtain ⟨o3, E3, hret⟩ := ret_sl (s := ⟨[.cells [.d (.int .i64 6), .d (.int .i64 m), .d (.string s)]], E'⟩) (st := st) (nl := nl') (n := b.reverse.length) (cs := u8s b.reverse) (o := o')
    have hw : IntKind.i64.wrap ((b.length : Int) - 1) = b.length - 1 := w64 (by omega) (by omega)
    refine ⟨nl', o3, E3, ?_, hn⟩
    rw [u8s_nil] at hl
    simp only [Option.getD_some, Option.isSome_some]
    generalize b.reverse = x at *
    simp [c61, DoV.t, hw, hl, hret]
  by_cases h7 : k = 7
  · subst h7
    have hst : stepB ⟨7, m, s⟩ (ins.map (·.2)) b = some (b.take m.toNat) := by simp [stepB]
    rw [hst]
    have hsl := sliceV_hi (n := 1) (m := b.length) (nl := nl) (cs := u8s b) (o := closeO o) (k := .i64) (j := min m (b.length : Int)) (e := 5) (by simp) (by omega) (by omega)
    have e1 : (min m (b.length : Int)).toNat = min m.toNat b.length := by omega
    have e2 : b.take (min m.toNat b.length) = b.take m.toNat := by
      by_cases h : m.toNat ≤ b.length
      · rw [Nat.min_eq_left h]
      · rw [Nat.min_eq_right (by omega), List.take_of_length_le (Nat.le_refl _), List.take_of_length_le (by omega)]
    rw [e1, Nat.mul_one, u8s_take, e2] at hsl
    have e3 : (b.take m.toNat).length = min m.toNat b.length := by simp
    rw [← e3] at hsl
    have e4 : (b.take m.toNat).length ≤ roomB := by rw [e3]; omega
    generalize b.take m.toNat = x at *
    obtain ⟨nl1, o1, E1, ha, _, hn1⟩ := app_row (st := ⟨[.cells [.d (.int .i64 7), .d (.int .i64 m), .d (.string s)]], []⟩) (m := 0) (nl := true) (cs := []) (o := .ex) (nl' := nl) (o' := cutO (closeO o) b.length 0 x.length none) (x := x) own_ex rfl (by omega)
    obtain ⟨o3, E3, hret⟩ := ret_sl (s := ⟨[.cells [.d (.int .i64 7), .d (.int .i64 m), .d (.string s)]], E1⟩) (st := st) (nl := nl1) (n := x.length) (cs := u8s x) (o := o1)
    refine ⟨nl1, o3, E3, ?_, fun h => (hn1 h).2⟩
    simp only [Option.getD_some, Option.isSome_some]
    simp at ha
    simp [c61, DoV.t, hsl, ha, hret]
  by_cases h8 : k = 8
  · subst h8
    have hst : stepB ⟨8, m, s⟩ (ins.map (·.2)) b = some (b.drop m.toNat) := by simp [stepB]
    rw [hst]
    have hsl := sliceV_lo (n := 1) (m := b.length) (nl := nl) (cs := u8s b) (o := closeO o) (k := .i64) (i := min m (b.length : Int)) (e := 5) (by simp) (by omega) (by omega)
    have e1 : (min m (b.length : Int)).toNat = min m.toNat b.length := by omega
    have e2 : b.drop (min m.toNat b.length) = b.drop m.toNat := by
      by_cases h : m.toNat ≤ b.length
      · rw [Nat.min_eq_left h]
      · rw [Nat.min_eq_right (by omega), List.drop_of_length_le (Nat.le_refl _), List.drop_of_length_le (by omega)]
    rw [e1, Nat.mul_one, u8s_drop, e2] at hsl
    have e3 : (b.drop m.toNat).length = b.length - min m.toNat b.length := by simp; omega
    rw [← e3] at hsl
    have e4 : (b.drop m.toNat).length ≤ roomB := by rw [e3]; omega
    generalize b.drop m.toNat = x at *
    obtain ⟨nl1, o1, E1, ha, _, hn1⟩ := app_row (st := ⟨[.cells [.d (.int .i64 8), .d (.int .i64 m), .d (.string s)]], []⟩) (m := 0) (nl := true) (cs := []) (o := .ex) (nl' := nl) (o' := cutO (closeO o) b.length (min m.toNat b.length) b.length none) (x := x) own_ex rfl (by omega)
    obtain ⟨o3, E3, hret⟩ := ret_sl (s := ⟨[.cells [.d (.int .i64 8), .d (.int .i64 m), .d (.string s)]], E1⟩) (st := st) (nl := nl1) (n := x.length) (cs := u8s x) (o := o1)
    refine ⟨nl1, o3, E3, ?_, fun h => (hn1 h).2⟩
    simp only [Option.getD_some, Option.isSome_some]
    simp at ha
    simp [c61, DoV.t, hsl, ha, hret]
  by_cases h9 : k = 9
  · subst h9
    have hst : stepB ⟨9, m, s⟩ (ins.map (·.2)) b = some (b ++ b) := by simp [stepB]
    rw [hst]
    obtain ⟨nl1, o1, E1, ha, hown, hn1⟩ := app_row (st := ⟨[.cells [.d (.int .i64 9), .d (.int .i64 m), .d (.string s)]], []⟩) (m := 0) (nl := true) (cs := []) (o := .ex) (nl' := nl) (o' := closeO o) (x := b) own_ex rfl (by omega)
    obtain ⟨nl2', o2', E2, ha2, _, hn2⟩ := app_row (st := ⟨[.cells [.d (.int .i64 9), .d (.int .i64 m), .d (.string s)]], E1⟩) (m := 0 + b.length) (nl := nl1) (cs := [] ++ u8s b) (o := o1) (nl' := nl) (o' := closeO o) (x := b) hown (by simp) (by unfold roomB; omega)
    obtain ⟨o3, E3, hret⟩ := ret_sl (s := ⟨[.cells [.d (.int .i64 9), .d (.int .i64 m), .d (.string s)]], E2⟩) (st := st) (nl := nl2') (n := (b ++ b).length) (cs := u8s (b ++ b)) (o := o2')
    refine ⟨nl2', o3, E3, ?_, fun h => by simp [(hn2 h).2]⟩
    simp only [Option.getD_some, Option.isSome_some]
    rw [u8s_append] at hret ⊢
    simp at ha ha2 hret
    simp [c61, DoV.t, ha, ha2, hret]
  by_cases h10 : k = 10
  · subst h10
    have hst : stepB ⟨10, m, s⟩ (ins.map (·.2)) b = some (joinF true s.data.toList b) := by simp [stepB]
    rw [hst]
    have hjl := joinF_len s.data.toList true b
    have hsz : s.data.toList.length = s.size := by simp
    have hj2 : b.length * (s.data.toList.length + 1) ≤ 1000 * 1001 := Nat.mul_le_mul hb (by omega)
    obtain ⟨nl', o', E', fr, hl, hn⟩ := loop61j 10 m s b nl (closeO o) hnl (by omega) b [] [] (joinF true s.data.toList b) 0 _ 0 true .ex [] rfl rfl rfl rfl rfl (by unfold roomB; omega) own_ex (by simp)
    obtain ⟨o3, E3, hret⟩ := ret_sl (s := ⟨[.cells [.d (.int .i64 10), .d (.int .i64 m), .d (.string s)]], E'⟩) (st := st) (nl := nl') (n := (joinF true s.data.toList b).length) (cs := u8s (joinF true s.data.toList b)) (o := o')
    refine ⟨nl', o3, E3, ?_, hn⟩
    rw [u8s_nil] at hl
    simp only [Option.getD_some, Option.isSome_some]
    generalize joinF true s.data.toList b = x at *
    simp [c61, DoV.t, hl, hret]
  · have h11 : k = 11 := by omega
    subst h11
    have hst : stepB ⟨11, m, s⟩ (ins.map (·.2)) b = none := by simp [stepB]
    rw [hst]
    exact ⟨true, .ex, st.E, by simp [c61, DoV.t], by simp⟩
end Go.Proofs.CfgA
end
section
namespace Go.Proofs.CfgA
open Go Go.Tm Go.Proofs
set_option maxRecDepth 100000
set_option linter.unusedSimpArgs false
theorem right_kind {d : DoV} (h : rightD d = true) : 1 ≤ d.kind ∧ d.kind ≤ 11 := by
  unfold rightD at h
  split at h
  · simp at h
  · omega
theorem loop26 (l : List DoV) (ins : List Row) (nl2 nl3 : Bool) (o2 o3 : Ow) (hnl3 : nl3 = true → l = []) (hm : l.length ≤ 1000000) (hall : ∀ d ∈ l, rightD d = true) (hnl2 : nl2 = true → ins = []) (hrow : ∀ r ∈ ins, r.2.length ≤ roomB) (hcnt : ins.length ≤ 1000000) (hsum : (ins.map (·.2)).flatten.length ≤ roomB) : ∀ (suf pre : List DoV) (b : List UInt8) (n : Nat) (i : Int) (nl : Bool) (o : Ow) (E : List Nat), l = pre ++ suf → n = b.length → i = pre.length → (nl = true → b = []) → b.length ≤ 256 →
    (∀ x, runS (ins.map (·.2)) suf b = some x → x.length ≤ 256 ∧ ∃ nl' o' E' fr, runI cfg 26 n26_16 [(0, .sl nl3 l.length (dosD l) o3), (1, .sl nl2 ins.length (rowsD ins) o2), (6, .sl nl n (u8s b) o), (7, .d (.int .i64 i))] ⟨[], E⟩ =
      some (.exit 0, (0, .sl nl3 l.length (dosD l) o3) :: (1, .sl nl2 ins.length (rowsD ins) o2) :: (6, .sl nl' x.length (u8s x) o') :: fr, ⟨[], E'⟩) ∧ (nl' = true → x = [])) ∧
    (runS (ins.map (·.2)) suf b = none → ∃ st', runI cfg 26 n26_16 [(0, .sl nl3 l.length (dosD l) o3), (1, .sl nl2 ins.length (rowsD ins) o2), (6, .sl nl n (u8s b) o), (7, .d (.int .i64 i))] ⟨[], E⟩ =
      some (.ret, [(4, .sl true 0 [] .ex), (5, .d (.bool false))], st'))
  | [], pre, b, n, i, nl, o, E, hl, hn, hi, hnl, hb => by
    subst hn hi
    constructor
    · intro x hx
      simp [runS] at hx
      subst hx
      refine ⟨hb, nl, o, E, ?_⟩
      simp [l26_16, hl]
      exact hnl
    · intro h; simp [runS] at h
  | d :: suf, pre, b, n, i, nl, o, E, hl, hn, hi, hnl, hb => by
    subst hn hi
    have hlt : pre.length < l.length := by rw [hl]; simp
    have hlt' : (pre.length : Int) < l.length := by omega
    have hg : l[pre.length] = d := by simp [hl]
    have hnl3' : nl3 = false := by cases nl3 with | false => rfl | true => exact absurd (hnl3 rfl) (by rw [hl]; simp)
    subst hnl3'
    have hix := ixV_sl (n := 3) (m := l.length) (cs := dosD l) (o := o3) (k := .i64) (i := (pre.length : Int)) (by omega) hlt'
    simp only [Int.toNat_natCast] at hix
    have hp := dosD_piece l pre.length hlt
    rw [hg] at hp
    have hw : IntKind.i64.wrap ((pre.length : Int) + 1) = pre.length + 1 := w64 (by omega) (by omega)
    obtain ⟨f1, f2⟩ := right_facts (hall d (by simp [hl]))
    obtain ⟨f3, f4⟩ := right_kind (hall d (by simp [hl]))
    obtain ⟨nl', o', E', hs, hsn⟩ := changed_run (d := d) (ins := ins) (b := b) (nl := nl) (nl2 := nl2) (n := b.length) (n2 := ins.length) (o := o) (o2 := o2) (st := ⟨[], E⟩) f1 f3 f4 (by omega) rfl hnl2 hrow hcnt hsum rfl hnl (by omega)
    cases hst : stepB d (ins.map (·.2)) b with
    | none =>
      rw [hst] at hs
      refine ⟨fun x hx => (by simp [runS, hst] at hx), fun _ => ?_⟩
      obtain ⟨k, m, s⟩ := d
      simp only [DoV.t] at hs
      refine ⟨⟨[], E'⟩, ?_⟩
      rw [l26_16]
      simp at hs
      simp [hlt', hix, hp, DoV.t, hs]
    | some x =>
      rw [hst] at hs hsn
      simp only [Option.getD_some, Option.isSome_some] at hs hsn
      by_cases hx : 256 < x.length
      · refine ⟨fun y hy => (by simp [runS, hst, hx] at hy), fun _ => ?_⟩
        have hx' : (256 : Int) < x.length := by omega
        obtain ⟨k, m, s⟩ := d
        simp only [DoV.t] at hs
        refine ⟨⟨[], E'⟩, ?_⟩
        rw [l26_16]
        simp [hlt', hix, hp, DoV.t, hs, hx']
      · have hx' : ¬ (256 : Int) < x.length := by omega
        have hrs : runS (ins.map (·.2)) (d :: suf) b = runS (ins.map (·.2)) suf x := by simp [runS, hst, hx]
        obtain ⟨ih1, ih2⟩ := loop26 l ins nl2 false o2 o3 hnl3 hm hall hnl2 hrow hcnt hsum suf (pre ++ [d]) x x.length ((pre.length : Int) + 1) nl' o' E' (by simp [hl]) rfl (by simp) hsn (by omega)
        rw [hrs]
        have front : ∀ (R : Res), R = runI cfg 26 n26_16 [(0, .sl false l.length (dosD l) o3), (1, .sl nl2 ins.length (rowsD ins) o2), (6, .sl nl' x.length (u8s x) o'), (7, .d (.int .i64 ((pre.length : Int) + 1)))] ⟨[], E'⟩ →
            runI cfg 26 n26_16 [(0, .sl false l.length (dosD l) o3), (1, .sl nl2 ins.length (rowsD ins) o2), (6, .sl nl b.length (u8s b) o), (7, .d (.int .i64 pre.length))] ⟨[], E⟩ = R := by
          intro R hR
          rw [hR]
          obtain ⟨k, m, s⟩ := d
          simp only [DoV.t] at hs
          rw [l26_16]
          simp [hlt', hix, hp, DoV.t, hs, hx', hw]
          rw [gcT_stay (by simp)]
        constructor
        · intro y hy
          obtain ⟨hyl, nl4, o4, E4, fr, h, hyn⟩ := ih1 y hy
          exact ⟨hyl, nl4, o4, E4, fr, front _ h.symm, hyn⟩
        · intro hy
          obtain ⟨st', h⟩ := ih2 hy
          exact ⟨st', front _ h.symm⟩
theorem rrun_run {l : List DoV} {ins : List Row} {nl nl2 : Bool} {n n2 : Nat} {o o2 : Ow} {st : St} (hn : n = l.length) (hnl : nl = true → l = []) (hm : l.length ≤ 1000000) (hs : ∀ d ∈ l, d.text.size ≤ roomB) (hn2 : n2 = ins.length) (hnl2 : nl2 = true → ins = []) (hrow : ∀ r ∈ ins, r.2.length ≤ roomB) (hcnt : ins.length ≤ 1000000) (hsum : (ins.map (·.2)).flatten.length ≤ roomB) :
    ∃ nl' o' E', callI cfg 26 [.sl nl n (dosD l) o, .sl nl2 n2 (rowsD ins) o2] st = some (.tup [.sl nl' ((runA l (ins.map (·.2))).getD []).length (u8s ((runA l (ins.map (·.2))).getD [])) o', .d (.bool (runA l (ins.map (·.2))).isSome)], ⟨st.H, E'⟩) ∧ (nl' = true → (runA l (ins.map (·.2))).getD [] = []) := by
  subst hn hn2
  have hok := fun st => okact_run (l := l) (nl := nl) (n := l.length) (o := closeO o) (st := st) rfl hnl hm hs
  by_cases hk : okAct l = true
  · rw [hk] at hok
    have hall : ∀ d ∈ l, rightD d = true := by
      simp [okAct] at hk
      exact okDos_all true l hk.1
    obtain ⟨h1, h2⟩ := loop26 l ins nl2 nl (closeO o2) (closeO o) hnl hm hall hnl2 hrow hcnt hsum l [] [] 0 0 true .ex [] rfl rfl rfl (by simp) (by simp)
    rw [u8s_nil] at h1 h2
    have hra : runA l (ins.map (·.2)) = runS (ins.map (·.2)) l [] := by simp [runA, hk]
    rw [hra]
    cases hr : runS (ins.map (·.2)) l [] with
    | none =>
      obtain ⟨st', h⟩ := h2 hr
      refine ⟨true, .ex, st.E, ?_, by simp⟩
      simp [c26, hok, h]
    | some x =>
      obtain ⟨hx, nl', o', E', fr, h, hxn⟩ := h1 x hr
      obtain ⟨o3, E3, hret⟩ := ret_sl (s := ⟨[], E'⟩) (st := st) (nl := nl') (n := x.length) (cs := u8s x) (o := o')
      refine ⟨nl', o3, E3, ?_, hxn⟩
      simp [c26, hok, h, hret]
  · simp only [Bool.not_eq_true] at hk
    rw [hk] at hok
    have hra : runA l (ins.map (·.2)) = none := by simp [runA, hk]
    rw [hra]
    refine ⟨true, .ex, st.E, ?_, by simp⟩
    simp [c26, hok]
end Go.Proofs.CfgA
end
section
namespace Go.Proofs.CfgA
open Go Go.Tm Go.Proofs
set_option maxRecDepth 100000
set_option linter.unusedSimpArgs false
/-! ### the reference reads -/
def ractLoop : Nat → RdV → List DoV → List DoV × RdV
  | 0, r, l => (l, r)
  | n + 1, r, l => ractLoop n (rrB (rrNum (rrNum r 11).2 999).2 64).2.2 (l ++ [⟨(rrNum r 11).1, (rrNum (rrNum r 11).2 999).1, strOf (rrB (rrNum (rrNum r 11).2 999).2 64).2.1⟩])
theorem abs_ract : ∀ (n : Nat) (r : RdV) (l : List DoV), (ractLoop n r l).1 = (aAct 64 n r.abs l).1 ∧ (ractLoop n r l).2.abs = (aAct 64 n r.abs l).2
  | 0, r, l => ⟨rfl, rfl⟩
  | n + 1, r, l => by
    rw [ractLoop, aAct]
    obtain ⟨a1, a2⟩ := abs_rnum r 11
    obtain ⟨b1, b2⟩ := abs_rnum (rrNum r 11).2 999
    obtain ⟨c1, c2⟩ := abs_rb (rrNum (rrNum r 11).2 999).2 64
    rw [a2] at b1 b2
    rw [b2] at c1 c2
    have ih := abs_ract n (rrB (rrNum (rrNum r 11).2 999).2 64).2.2 (l ++ [⟨(rrNum r 11).1, (rrNum (rrNum r 11).2 999).1, strOf (rrB (rrNum (rrNum r 11).2 999).2 64).2.1⟩])
    rw [c2] at ih
    rw [a1, b1, c1] at ih ⊢
    exact ih
theorem ractLoop_ok : ∀ (n : Nat) (r : RdV) (l : List DoV), r.ok → (ractLoop n r l).2.ok ∧ (ractLoop n r l).2.l.length ≤ r.l.length ∧ (ractLoop n r l).1.length = l.length + n
  | 0, r, l, h => ⟨h, Nat.le_refl _, rfl⟩
  | n + 1, r, l, h => by
    rw [ractLoop]
    obtain ⟨ok1, _, len1⟩ := rrNum_ok (top := 11) h
    obtain ⟨ok2, _, len2⟩ := rrNum_ok (top := 999) ok1
    obtain ⟨ok3, _, len3, _⟩ := rrB_ok (top := 64) ok2
    obtain ⟨h1, h2, h3⟩ := ractLoop_ok n _ (l ++ [⟨(rrNum r 11).1, (rrNum (rrNum r 11).2 999).1, strOf (rrB (rrNum (rrNum r 11).2 999).2 64).2.1⟩]) ok3
    exact ⟨h1, by omega, by rw [h3]; simp; omega⟩
set_option maxHeartbeats 4000000 in
theorem loop56 : ∀ (m : Nat) (r : RdV) (l L : List DoV) (R : RdV) (nl : Bool) (o : Ow) (E : List Nat) (k : Nat) (i : Int), ractLoop m r l = (L, R) → k = l.length → i = m → r.ok → r.l.length ≤ roomB → Own E nl l.length o → l.length + m ≤ 100000 →
    ∃ nl' o' E' fr, runI cfg 56 n56_10 [(4, .ptr 0 0), (5, .sl nl k (dosD l) o), (6, .d (.int .i64 i))] ⟨[.cells r.cs], E⟩ =
      some (.exit 0, (4, .ptr 0 0) :: (5, .sl nl' L.length (dosD L) o') :: fr, ⟨[.cells R.cs], E'⟩) ∧ (nl' = true → nl = true ∧ L = l)
  | 0, r, l, L, R, nl, o, E, k, i, hL, hk, hi, hr, hb, ho, hlen => by
    simp [ractLoop] at hL
    obtain ⟨rfl, rfl⟩ := hL
    subst hk hi
    refine ⟨nl, o, E, ?_⟩
    simp [l56_10]
  | m + 1, r, l, L, R, nl, o, E, k, i, hL, hk, hi, hr, hb, ho, hlen => by
    subst hk hi
    obtain ⟨ok1, pos1, len1⟩ := rrNum_ok (top := 11) hr
    obtain ⟨ok2, pos2, len2⟩ := rrNum_ok (top := 999) ok1
    obtain ⟨ok3, nil3, len3, len3'⟩ := rrB_ok (top := 64) ok2
    have k1 := rrnum58 (r := r) (top := 11) (H := []) (E := E) hr
    have k2 := rrnum58 (r := (rrNum r 11).2) (top := 999) (H := []) (E := E) ok1
    obtain ⟨oB, EB, k3, E2, hE2⟩ := rrbytes57 (r := (rrNum (rrNum r 11).2 999).2) (top := 64) (H := [.cells [.d (.int .i64 (rrNum r 11).1), .d (.int .i64 (rrNum (rrNum r 11).2 999).1), .d (.string ByteArray.empty)]]) (E := E) ok2 (by omega)
    rw [ractLoop] at hL
    generalize rrNum r 11 = p1 at *
    obtain ⟨v1, r1⟩ := p1
    simp only at *
    generalize rrNum r1 999 = p2 at *
    obtain ⟨v2, r2⟩ := p2
    simp only at *
    generalize rrB r2 64 = p3 at *
    obtain ⟨nb, x, r3⟩ := p3
    simp only at *
    have hown : Own EB nl l.length o := by rw [hE2]; exact own_app ho
    obtain ⟨o2, E3, ha, hown2⟩ := app_own (st := ⟨[.cells r3.cs, .cells [.d (.int .i64 v1), .d (.int .i64 v2), .d (.string (strOf x))]], EB⟩) (n := 3) (b := 32) (k := 1) (cs := dosD l) (ys := DoV.d ⟨v1, v2, strOf x⟩) (nl' := false) (o' := .lit) hown (by simp) rfl (by omega) (by unfold roomB; omega)
    obtain ⟨nl', o', E', fr, ih, ih2⟩ := loop56 m r3 (l ++ [⟨v1, v2, strOf x⟩]) L R false o2 E3 (l.length + 1) (m : Int) hL (by simp) rfl ok3 (by omega) (by simpa using hown2) (by simp; omega)
    refine ⟨nl', o', E', fr, ?_, fun h => absurd (ih2 h).1 (by simp)⟩
    rw [l56_10]
    rw [dosD_append, ← dosD_one] at ih
    simp [DoV.d] at ha ih
    have hpos : (0 : Int) < (m : Int) + 1 := by omega
    have hw : IntKind.i64.wrap ((m : Int) + 1 - 1) = m := by rw [w64 (by omega) (by omega)]; omega
    have hw' : IntKind.i64.wrap (m : Int) = m := w64 (by omega) (by omega)
    simp [hpos, k1, k2, k3, putAt, conv_bs', ha, hw, hw']
    rw [gcT_cut (by simp) (by simp) (by simp)]
    simpa using ih
theorem ract_run {b : List UInt8} {nl : Bool} {n : Nat} {o : Ow} {st : St} (hn : n = b.length) (hl : nl = true → b = []) (hr : b.length ≤ roomB) :
    ∃ nl' o' E', callI cfg 56 [.sl nl n (u8s b) o] st = some (.tup [.sl nl' (aAction 64 b).1.length (dosD (aAction 64 b).1) o', .d (.bool (aAction 64 b).2)], ⟨st.H, E'⟩) ∧ (nl' = true → (aAction 64 b).1 = []) := by
  subst hn
  let r0 : RdV := ⟨nl, b, closeO o, false⟩
  have ok0 : r0.ok := hl
  have k1 := rrnum58 (r := r0) (top := 8) (H := []) (E := []) ok0
  obtain ⟨ok1, pos1, len1⟩ := rrNum_ok (top := 8) ok0
  obtain ⟨a1, a2⟩ := abs_rnum r0 8
  have e0 : r0.abs = some b := rfl
  rw [e0] at a1 a2
  obtain ⟨_, le1⟩ := aNum_le (some b) (top := 8) (by omega)
  rw [← a1] at le1
  obtain ⟨N, hN⟩ := Int.eq_ofNat_of_zero_le pos1
  have hc := abs_ract N (rrNum r0 8).2 []
  obtain ⟨ok2, len2, cnt⟩ := ractLoop_ok N (rrNum r0 8).2 [] ok1
  have hl0 : r0.l.length = b.length := rfl
  simp only [List.length_nil, Nat.zero_add] at cnt
  obtain ⟨nl', o', E', fr, hloop, hnl'⟩ := loop56 N (rrNum r0 8).2 [] (ractLoop N (rrNum r0 8).2 []).1 (ractLoop N (rrNum r0 8).2 []).2 true .ex [] 0 N rfl rfl rfl ok1 (by omega) own_ex (by simp; omega)
  have hN2 : N = (aNum (some b) 8).1.toNat := by rw [← a1, hN]; rfl
  have hL : (ractLoop N (rrNum r0 8).2 []).1 = (aAction 64 b).1 := by rw [hc.1, a2, hN2]; rfl
  have hE : decide ((ractLoop N (rrNum r0 8).2 []).2.abs = some []) = decide ((aAct 64 (aNum (some b) 8).1.toNat (aNum (some b) 8).2 []).2 = some []) := by rw [hc.2, a2, hN2]
  have k3 := end59 (r := (ractLoop N (rrNum r0 8).2 []).2) (H := []) (E := E')
  rw [end_abs, hE] at k3
  rw [hL] at hloop cnt hnl'
  rw [dosD_nil] at hloop
  have htx : ∀ d ∈ (aAction 64 b).1, d.text.size ≤ roomB := fun d hd => by
    have := aAct_texts 64 (by omega) (aNum (some b) 8).1.toNat (aNum (some b) 8).2 [] (by simp) d hd
    unfold roomB; omega
  have hnlL : nl' = true → (aAction 64 b).1 = [] := fun h => (hnl' h).2
  have k4 := fun st => okact_run (l := (aAction 64 b).1) (nl := nl') (n := (aAction 64 b).1.length) (o := o') (st := st) rfl hnlL (by omega) htx
  obtain ⟨o2, E2, hret⟩ := ret_sl (s := ⟨[.cells (ractLoop N (rrNum r0 8).2 []).2.cs], E'⟩) (st := st) (nl := nl') (n := (aAction 64 b).1.length) (cs := dosD (aAction 64 b).1) (o := o')
  refine ⟨nl', o2, E2, ?_, hnlL⟩
  have hres : (aAction 64 b).2 = (decide ((aAct 64 (aNum (some b) 8).1.toNat (aNum (some b) 8).2 []).2 = some []) && okAct (aAction 64 b).1) := rfl
  rw [hres]
  rw [hN] at k1
  generalize (ractLoop N (rrNum r0 8).2 []).2 = R at *
  generalize (rrNum r0 8).2 = r1 at *
  generalize decide ((aAct 64 (aNum (some b) 8).1.toNat (aNum (some b) 8).2 []).2 = some []) = e at *
  generalize (aAction 64 b).1 = L at *
  have k1' : callI cfg 58 [.ptr 0 0, .d (.int .i64 8)] ⟨[.cells [.sl nl b.length (u8s b) (closeO o), .d (.bool false)]], []⟩ = some (.d (.int .i64 N), ⟨[.cells r1.cs], []⟩) := k1
  cases e <;> simp [c56, putAt, k1', hloop, k3, k4, hret]
def rrowLoop : Nat → RdV → List Row → List Row × RdV
  | 0, r, l => (l, r)
  | n + 1, r, l => rrowLoop n (rrB r 256).2.2 (l ++ [((rrB r 256).1, (rrB r 256).2.1)])
theorem abs_rrows : ∀ (n : Nat) (r : RdV) (l : List Row), (rrowLoop n r l).1.map (·.2) = (aRows n r.abs (l.map (·.2))).1 ∧ (rrowLoop n r l).2.abs = (aRows n r.abs (l.map (·.2))).2
  | 0, r, l => by simp [rrowLoop, aRows]
  | n + 1, r, l => by
    rw [rrowLoop, aRows]
    obtain ⟨c1, c2⟩ := abs_rb r 256
    have ih := abs_rrows n (rrB r 256).2.2 (l ++ [((rrB r 256).1, (rrB r 256).2.1)])
    rw [c2] at ih
    rw [List.map_append, List.map_singleton, c1] at ih
    rw [c1]
    exact ih
theorem rrowLoop_ok : ∀ (n : Nat) (r : RdV) (l : List Row), r.ok → (rrowLoop n r l).2.ok ∧ (rrowLoop n r l).2.l.length ≤ r.l.length ∧ (rrowLoop n r l).1.length = l.length + n
  | 0, r, l, h => ⟨h, Nat.le_refl _, rfl⟩
  | n + 1, r, l, h => by
    rw [rrowLoop]
    obtain ⟨ok3, _, len3, _⟩ := rrB_ok (top := 256) h
    obtain ⟨h1, h2, h3⟩ := rrowLoop_ok n _ (l ++ [((rrB r 256).1, (rrB r 256).2.1)]) ok3
    exact ⟨h1, by omega, by rw [h3]; simp; omega⟩
theorem loop23 (x6 x7 : T) (hx6 : x6.lo 1 = true) (hx7 : x7.lo 1 = true) : ∀ (m : Nat) (r : RdV) (l L : List Row) (R : RdV) (nl : Bool) (o : Ow) (E : List Nat) (k : Nat) (i : Int), rrowLoop m r l = (L, R) → k = l.length → i = m → r.ok → r.l.length ≤ roomB → Own E nl l.length o → l.length + m ≤ 100000 →
    ∃ nl' o' E' fr, runI cfg 23 n23_12 [(5, .ptr 0 0), (6, x6), (7, x7), (8, .sl nl k (rowsD l) o), (9, .d (.int .i64 i))] ⟨[.cells r.cs], E⟩ =
      some (.exit 0, (5, .ptr 0 0) :: (6, x6) :: (7, x7) :: (8, .sl nl' L.length (rowsD L) o') :: fr, ⟨[.cells R.cs], E'⟩) ∧ (nl' = true → nl = true ∧ L = l)
  | 0, r, l, L, R, nl, o, E, k, i, hL, hk, hi, hr, hb, ho, hlen => by
    simp [rrowLoop] at hL
    obtain ⟨rfl, rfl⟩ := hL
    subst hk hi
    refine ⟨nl, o, E, ?_⟩
    simp [l23_12]
  | m + 1, r, l, L, R, nl, o, E, k, i, hL, hk, hi, hr, hb, ho, hlen => by
    subst hk hi
    obtain ⟨ok3, nil3, len3, len3'⟩ := rrB_ok (top := 256) hr
    obtain ⟨oB, EB, k3, E2, hE2⟩ := rrbytes57 (r := r) (top := 256) (H := []) (E := E) hr hb
    rw [rrowLoop] at hL
    generalize rrB r 256 = p3 at *
    obtain ⟨nb, x, r3⟩ := p3
    simp only at *
    have hown : Own EB nl l.length o := by rw [hE2]; exact own_app ho
    obtain ⟨o2, E3, ha, hown2⟩ := app_own (st := ⟨[.cells r3.cs], EB⟩) (n := 1) (b := 24) (k := 1) (cs := rowsD l) (ys := [D.slc nb x.length (u8s x)]) (nl' := false) (o' := .lit) hown (by simp) rfl (by omega) (by unfold roomB; omega)
    obtain ⟨nl', o', E', fr, ih, ih2⟩ := loop23 x6 x7 hx6 hx7 m r3 (l ++ [(nb, x)]) L R false o2 E3 (l.length + 1) (m : Int) hL (by simp) rfl ok3 (by omega) (by simpa using hown2) (by simp; omega)
    refine ⟨nl', o', E', fr, ?_, fun h => absurd (ih2 h).1 (by simp)⟩
    rw [rowsD_append, ← rowsD_one, ← rowD_eq nil3] at ih
    have hpos : (0 : Int) < (m : Int) + 1 := by omega
    have hw : IntKind.i64.wrap ((m : Int) + 1 - 1) = m := by rw [w64 (by omega) (by omega)]; omega
    have hw' : IntKind.i64.wrap (m : Int) = m := w64 (by omega) (by omega)
    rw [l23_12]
    simp [hpos, k3, putAt, ha, hw, hw']
    rw [gcT_stay (by simp)]
    simpa using ih
end Go.Proofs.CfgA
end
section
namespace Go.Proofs.CfgA
open Go Go.Tm Go.Proofs
set_option maxRecDepth 100000
set_option linter.unusedSimpArgs false
/-- What the reference reads of a print. -/
def rParse (b : List UInt8) : Prs :=
  let p := aB (some b) 10000
  let a := aAction 64 p.1
  let q := aNum p.2 8
  let t := aRows q.1.toNat q.2 []
  if a.2 = true ∧ t.2 = some [] then ⟨a.1, t.1, true⟩ else ⟨[], [], false⟩
theorem rparse_run {b : List UInt8} {nl : Bool} {n : Nat} {o : Ow} {st : St} (hn : n = b.length) (hl : nl = true → b = []) (hr : b.length ≤ roomB) :
    ∃ nl1 o1 nl2 o2 E' R, callI cfg 23 [.sl nl n (u8s b) o] st = some (.tup [.sl nl1 (rParse b).l.length (dosD (rParse b).l) o1, .sl nl2 R.length (rowsD R) o2, .d (.bool (rParse b).ok)], ⟨st.H, E'⟩) ∧
      (nl1 = true → (rParse b).l = []) ∧ (nl2 = true → R = []) ∧ R.map (·.2) = (rParse b).rows := by
  subst hn
  let r0 : RdV := ⟨nl, b, closeO o, false⟩
  have ok0 : r0.ok := hl
  obtain ⟨oB, EB, k1, E2, hE2⟩ := rrbytes57 (r := r0) (top := 10000) (H := []) (E := []) ok0 hr
  obtain ⟨ok1, nil1, len1, lenx⟩ := rrB_ok (top := 10000) ok0
  obtain ⟨a1, a2⟩ := abs_rb r0 10000
  have e0 : r0.abs = some b := rfl
  have hl0 : r0.l.length = b.length := rfl
  rw [e0] at a1 a2
  obtain ⟨nlA, oA, EA, k2, hnlA⟩ := ract_run (b := (rrB r0 10000).2.1) (nl := (rrB r0 10000).1) (n := (rrB r0 10000).2.1.length) (o := oB) (st := ⟨[.cells (rrB r0 10000).2.2.cs], EB⟩) rfl nil1 (by omega)
  have k3 := rrnum58 (r := (rrB r0 10000).2.2) (top := 8) (H := []) (E := EA) ok1
  obtain ⟨ok2, pos2, len2⟩ := rrNum_ok (top := 8) ok1
  obtain ⟨b1, b2⟩ := abs_rnum (rrB r0 10000).2.2 8
  rw [a2] at b1 b2
  obtain ⟨_, le2⟩ := aNum_le (aB (some b) 10000).2 (top := 8) (by omega)
  rw [← b1] at le2
  obtain ⟨N, hN⟩ := Int.eq_ofNat_of_zero_le pos2
  obtain ⟨c1, c2⟩ := abs_rrows N (rrNum (rrB r0 10000).2.2 8).2 []
  obtain ⟨ok3, len3, cnt⟩ := rrowLoop_ok N (rrNum (rrB r0 10000).2.2 8).2 [] ok2
  simp only [List.length_nil, Nat.zero_add] at cnt
  rw [b2] at c1 c2
  have hN2 : N = (aNum (aB (some b) 10000).2 8).1.toNat := by rw [← b1, hN]; rfl
  obtain ⟨nl', o', E', fr, hloop, hnl'⟩ := loop23 (.sl nlA (aAction 64 (rrB r0 10000).2.1).1.length (dosD (aAction 64 (rrB r0 10000).2.1).1) oA) (.d (.bool (aAction 64 (rrB r0 10000).2.1).2)) rfl rfl N (rrNum (rrB r0 10000).2.2 8).2 [] (rrowLoop N (rrNum (rrB r0 10000).2.2 8).2 []).1 (rrowLoop N (rrNum (rrB r0 10000).2.2 8).2 []).2 true .ex EA 0 N rfl rfl rfl ok2 (by omega) own_ex (by simp; omega)
  rw [rowsD_nil] at hloop
  have k4 := end59 (r := (rrowLoop N (rrNum (rrB r0 10000).2.2 8).2 []).2) (H := []) (E := E')
  rw [end_abs, c2] at k4
  have hpar : rParse b = if (aAction 64 (rrB r0 10000).2.1).2 = true ∧ (aRows N (aNum (aB (some b) 10000).2 8).2 (List.map (·.2) ([] : List Row))).2 = some [] then ⟨(aAction 64 (rrB r0 10000).2.1).1, (rrowLoop N (rrNum (rrB r0 10000).2.2 8).2 []).1.map (·.2), true⟩ else ⟨[], [], false⟩ := by
    rw [c1, a1, hN2]; rfl
  rw [hpar]
  rw [hN] at k3
  have k1' : callI cfg 57 [.ptr 0 0, .d (.int .i64 10000)] ⟨[.cells [.sl nl b.length (u8s b) (closeO o), .d (.bool false)]], []⟩ = some (.sl (rrB r0 10000).1 (rrB r0 10000).2.1.length (u8s (rrB r0 10000).2.1) oB, ⟨[.cells (rrB r0 10000).2.2.cs], EB⟩) := k1
  generalize (aRows N (aNum (aB (some b) 10000).2 8).2 (List.map (·.2) ([] : List Row))).2 = S at *
  generalize (rrowLoop N (rrNum (rrB r0 10000).2.2 8).2 []).2 = R3 at *
  generalize (rrowLoop N (rrNum (rrB r0 10000).2.2 8).2 []).1 = R at *
  generalize (rrNum (rrB r0 10000).2.2 8).2 = r2 at *
  generalize (rrB r0 10000).2.2 = r1 at *
  generalize (aAction 64 (rrB r0 10000).2.1).1 = L at *
  generalize (aAction 64 (rrB r0 10000).2.1).2 = okA at *
  have hnlR : nl' = true → R = [] := fun h => (hnl' h).2
  cases okA with
  | false =>
    refine ⟨true, .ex, true, .ex, st.E, [], ?_, by simp, by simp, by simp⟩
    simp [c23, putAt, k1', k2, k3, hloop]
  | true =>
    by_cases hS : S = some []
    · subst hS
      simp only [decide_true] at k4
      obtain ⟨o1, E1, hret⟩ := ret_sl (s := ⟨[.cells R3.cs], E'⟩) (st := st) (nl := nlA) (n := L.length) (cs := dosD L) (o := oA)
      refine ⟨nlA, o1, nl', closeO o', E1, R, ?_, by simpa using hnlA, hnlR, by simp⟩
      simp [c23, putAt, k1', k2, k3, hloop, k4, hret]
    · refine ⟨true, .ex, true, .ex, st.E, [], ?_, by simp [hS], by simp, by simp [hS]⟩
      simp [hS] at k4
      simp [c23, putAt, k1', k2, k3, hloop, k4, hS]
def rValue (b : List UInt8) : Option (List UInt8) := if (rParse b).ok = true then runA (rParse b).l (rParse b).rows else none
theorem rvalue_run {b : List UInt8} {nl : Bool} {n : Nat} {o : Ow} {st : St} (hn : n = b.length) (hl : nl = true → b = []) (hr : b.length ≤ roomB) (hs : ∀ d ∈ (rParse b).l, d.text.size ≤ roomB) (hm : (rParse b).l.length ≤ 1000000) (hrow : ∀ r ∈ (rParse b).rows, r.length ≤ roomB) (hcnt : (rParse b).rows.length ≤ 1000000) (hsum : (rParse b).rows.flatten.length ≤ roomB) :
    ∃ nl' o' E', callI cfg 24 [.sl nl n (u8s b) o] st = some (.tup [.sl nl' ((rValue b).getD []).length (u8s ((rValue b).getD [])) o', .d (.bool (rValue b).isSome)], ⟨st.H, E'⟩) ∧ (nl' = true → (rValue b).getD [] = []) := by
  obtain ⟨nl1, o1, nl2, o2, E1, R, h1, hn1, hn2, hR⟩ := rparse_run (b := b) (nl := nl) (n := n) (o := closeO o) (st := ⟨[], []⟩) hn hl hr
  cases hok : (rParse b).ok with
  | false =>
    rw [hok] at h1
    have hv : rValue b = none := by simp [rValue, hok]
    rw [hv]
    refine ⟨true, .ex, st.E, ?_, by simp⟩
    simp [c24, h1]
  | true =>
    rw [hok] at h1
    have hv : rValue b = runA (rParse b).l (R.map (·.2)) := by simp [rValue, hok, hR]
    rw [hv]
    obtain ⟨nl', o', E', h2, hn'⟩ := rrun_run (l := (rParse b).l) (ins := R) (nl := nl1) (nl2 := nl2) (n := (rParse b).l.length) (n2 := R.length) (o := o1) (o2 := o2) (st := ⟨[], E1⟩) rfl hn1 hm hs rfl hn2 (fun r hr => hrow r.2 (by rw [← hR]; exact List.mem_map_of_mem hr)) (by rw [← hR, List.length_map] at hcnt; exact hcnt) (by rw [← hR] at hsum; exact hsum)
    obtain ⟨o3, E3, hret⟩ := ret_sl (s := ⟨[], E'⟩) (st := st) (nl := nl') (n := ((runA (rParse b).l (R.map (·.2))).getD []).length) (cs := u8s ((runA (rParse b).l (R.map (·.2))).getD [])) (o := o')
    refine ⟨nl', o3, E3, ?_, hn'⟩
    simp [c24, h1, h2, hret]
end Go.Proofs.CfgA
end
section
namespace Go.Proofs.CfgA
open Go Go.Tm Go.Proofs
set_option maxRecDepth 100000
set_option linter.unusedSimpArgs false
/-! ### what is read is what was printed -/
theorem six_inv : ∀ (x : List UInt8), x.length = 6 → six (beN x) = x
  | [b0, b1, b2, b3, b4, b5], _ => by
    have k0 := b0.toNat_lt; have k1 := b1.toNat_lt; have k2 := b2.toNat_lt; have k3 := b3.toNat_lt; have k4 := b4.toNat_lt; have k5 := b5.toNat_lt
    have ho : ∀ k n (c : UInt8), n / 256 ^ k % 256 = c.toNat → oct n k = c := fun k n c h => by
      apply UInt8.toNat_inj.1
      simpa [oct] using h
    simp only [six, beN, List.foldl_cons, List.foldl_nil]
    rw [ho 5 _ b0 (by simp only [Nat.reducePow]; omega), ho 4 _ b1 (by simp only [Nat.reducePow]; omega), ho 3 _ b2 (by simp only [Nat.reducePow]; omega), ho 2 _ b3 (by simp only [Nat.reducePow]; omega), ho 1 _ b4 (by simp only [Nat.reducePow]; omega), ho 0 _ b5 (by simp only [Nat.reducePow]; omega)]
  | [], h | [_], h | [_, _], h | [_, _, _], h | [_, _, _, _], h | [_, _, _, _, _], h | _ :: _ :: _ :: _ :: _ :: _ :: _ :: _, h => absurd h (by simp)
theorem aNum_inv {s : Rd} {top v : Int} {t : List UInt8} (ht : top ≤ 1099511627776) (h : aNum s top = (v, some t)) : s = some (sixI v ++ t) ∧ 0 ≤ v ∧ v ≤ top := by
  unfold aNum at h
  cases s with
  | none => simp at h
  | some l =>
    simp only at h
    split at h
    · simp at h
    · rename_i hc
      simp only [Prod.mk.injEq, Option.some.injEq] at h
      obtain ⟨rfl, rfl⟩ := h
      have hl : ¬ l.length < 6 := fun h => hc (.inl h)
      have hb : ¬ top < (beN (l.take 6) : Int) := fun h => hc (.inr h)
      refine ⟨?_, by omega, by omega⟩
      have h6 : (l.take 6).length = 6 := by simp; omega
      unfold sixI
      rw [clampN_nat _ (by omega), six_inv _ h6, List.take_append_drop]
theorem aB_inv {s : Rd} {top : Int} {x t : List UInt8} (ht : top ≤ 1099511627776) (h : aB s top = (x, some t)) : s = some (rowB x ++ t) ∧ (x.length : Int) ≤ top := by
  unfold aB at h
  generalize hp : aNum s top = p at h
  obtain ⟨v, q⟩ := p
  cases q with
  | none => simp at h
  | some l =>
    simp only at h
    split at h
    · simp at h
    · rename_i hc
      simp only [Prod.mk.injEq, Option.some.injEq] at h
      obtain ⟨rfl, rfl⟩ := h
      obtain ⟨h1, h2, h3⟩ := aNum_inv ht hp
      have hx : (l.take v.toNat).length = v.toNat := by simp; omega
      have hv : (((l.take v.toNat).length : Nat) : Int) = v := by rw [hx]; omega
      refine ⟨?_, by omega⟩
      rw [h1]
      unfold rowB
      rw [hv, List.append_assoc, List.take_append_drop]
theorem aAct_inv (T : Int) (hT : T ≤ 1099511627776) : ∀ (n : Nat) (s : Rd) (l L : List DoV) (t : List UInt8), aAct T n s l = (L, some t) → ∃ ds, L = l ++ ds ∧ ds.length = n ∧ s = some (dosB ds ++ t)
  | 0, s, l, L, t, h => by
    simp only [aAct, Prod.mk.injEq] at h
    obtain ⟨rfl, rfl⟩ := h
    exact ⟨[], by simp, rfl, by simp [dosB]⟩
  | n + 1, s, l, L, t, h => by
    rw [aAct] at h
    obtain ⟨ds, h1, h2, h3⟩ := aAct_inv T hT n _ _ L t h
    generalize hp : aNum s 11 = p at *
    obtain ⟨v1, q1⟩ := p
    simp only at *
    generalize hp2 : aNum q1 999 = p2 at *
    obtain ⟨v2, q2⟩ := p2
    simp only at *
    generalize hp3 : aB q2 T = p3 at *
    obtain ⟨x, q3⟩ := p3
    simp only at *
    subst h3
    obtain ⟨i3, _⟩ := aB_inv hT hp3
    subst i3
    obtain ⟨i2, _, _⟩ := aNum_inv (by omega) hp2
    subst i2
    obtain ⟨i1, _, _⟩ := aNum_inv (by omega) hp
    subst i1
    refine ⟨⟨v1, v2, strOf x⟩ :: ds, by rw [h1]; simp, by simp [h2], ?_⟩
    have hx : (strOf x).data.toList = x := by simp [strOf]
    have hs : (strOf x).size = x.length := by simp [strOf, ByteArray.size]
    simp [dosB, doB, rowB, hx, hs]
theorem aRows_inv : ∀ (n : Nat) (s : Rd) (l L : List (List UInt8)) (t : List UInt8), aRows n s l = (L, some t) → ∃ rs, L = l ++ rs ∧ rs.length = n ∧ s = some (rs.flatMap rowB ++ t) ∧ ∀ x ∈ rs, x.length ≤ 256
  | 0, s, l, L, t, h => by
    simp only [aRows, Prod.mk.injEq] at h
    obtain ⟨rfl, rfl⟩ := h
    exact ⟨[], by simp, rfl, by simp, by simp⟩
  | n + 1, s, l, L, t, h => by
    rw [aRows] at h
    obtain ⟨rs, h1, h2, h3, h4⟩ := aRows_inv n _ _ L t h
    generalize hp3 : aB s 256 = p3 at *
    obtain ⟨x, q3⟩ := p3
    simp only at *
    subst h3
    obtain ⟨i3, i4⟩ := aB_inv (by omega) hp3
    subst i3
    refine ⟨x :: rs, by rw [h1]; simp, by simp [h2], by simp, fun y hy => ?_⟩
    rcases List.mem_cons.1 hy with rfl | hy
    · omega
    · exact h4 y hy
theorem aAction_inv {T : Int} (hT : T ≤ 1099511627776) {b : List UInt8} (h : (aAction T b).2 = true) : b = actB (aAction T b).1 ∧ okAct (aAction T b).1 = true := by
  unfold aAction at h ⊢
  simp only [Bool.and_eq_true, decide_eq_true_eq] at h
  obtain ⟨h1, h2⟩ := h
  simp only
  refine ⟨?_, h2⟩
  generalize hq : aAct T (aNum (some b) 8).1.toNat (aNum (some b) 8).2 [] = q at *
  obtain ⟨L, S⟩ := q
  simp only at *
  subst h1
  obtain ⟨ds, e1, e2, e3⟩ := aAct_inv T hT _ _ _ _ _ hq
  generalize hp : aNum (some b) 8 = p at *
  obtain ⟨v, s⟩ := p
  simp only at *
  subst e3
  obtain ⟨i1, i2, i3⟩ := aNum_inv (by omega) hp
  injection i1 with i1
  rw [i1, e1]
  have : ((([] ++ ds).length : Nat) : Int) = v := by simp; omega
  simp only [actB, this]
  simp
theorem rParse_inv {b : List UInt8} (h : (rParse b).ok = true) : b = prnP (rParse b).l (rParse b).rows ∧ okAct (rParse b).l = true ∧ (rParse b).rows.length ≤ 8 ∧ ∀ x ∈ (rParse b).rows, x.length ≤ 256 := by
  unfold rParse at h ⊢
  simp only at h ⊢
  split at h
  · rename_i hc
    rw [if_pos hc]
    obtain ⟨h1, h2⟩ := hc
    obtain ⟨i1, i2⟩ := aAction_inv (T := 64) (by omega) h1
    generalize hp : aB (some b) 10000 = p at *
    obtain ⟨x, s⟩ := p
    simp only at *
    generalize hq : aNum s 8 = q at *
    obtain ⟨v, s2⟩ := q
    simp only at *
    generalize ht : aRows v.toNat s2 [] = t at *
    obtain ⟨R, S⟩ := t
    simp only at *
    subst h2
    obtain ⟨rs, e1, e2, e3, e4⟩ := aRows_inv _ _ _ _ _ ht
    subst e3
    obtain ⟨j1, j2, j3⟩ := aNum_inv (by omega) hq
    subst j1
    obtain ⟨k1, _⟩ := aB_inv (by omega) hp
    injection k1 with k1
    simp only [List.nil_append] at e1
    subst e1
    refine ⟨?_, i2, by omega, e4⟩
    have hv : ((R.length : Nat) : Int) = v := by omega
    unfold prnP
    rw [← i1, hv, k1]
    simp
  · simp at h
theorem rparse_print {l : List DoV} {rows : List (List UInt8)} (h : okAct l = true) (hn : rows.length ≤ 8) (hr : ∀ x ∈ rows, x.length ≤ 256) : rParse (prnP l rows) = ⟨l, rows, true⟩ := by
  obtain ⟨h1, h2, h3⟩ := okAct_facts h
  have hab := actB_bd (T := 64) h1 (fun d hd => (right_bounds (h3 d hd)).2.2.2.2)
  have e : prnP l rows = rowB (actB l) ++ (sixI rows.length ++ (rows.flatMap rowB ++ [])) := by simp [prnP]
  have hB : aB (some (prnP l rows)) 10000 = (actB l, some (sixI rows.length ++ (rows.flatMap rowB ++ []))) := by
    rw [e, aB_row _ _ _ (by omega), if_neg (by omega)]
  have hA := aAction_act (T := 64) (by omega) h
  obtain ⟨r1, r2⟩ := aRows_rows rows [] [] (fun x hx => by have := hr x hx; omega)
  have hN := aNum_six (rows.length : Int) (rows.flatMap rowB ++ []) 8
  rw [clampN_nat _ (by omega), if_neg (by omega)] at hN
  unfold rParse
  simp only [hB, hA, hN, Int.toNat_natCast, r1 hr, List.nil_append, and_self, if_true]
theorem aParse_inv {b : List UInt8} (h : (aParse b).ok = true) : b = prnP (aParse b).l (aParse b).rows ∧ okAct (aParse b).l = true ∧ (aParse b).rows.length ≤ 8 ∧ ∀ x ∈ (aParse b).rows, x.length ≤ 256 := by
  unfold aParse at h ⊢
  simp only at h ⊢
  split at h
  · rename_i hc
    rw [if_pos hc]
    obtain ⟨h1, h2, h3⟩ := hc
    obtain ⟨i1, i2⟩ := aAction_inv (T := 256) (by omega) h1
    obtain ⟨_, le⟩ := aNum_le (aB (some b) 4000).2 (top := 8) (by omega)
    refine ⟨h3.symm, i2, ?_, aRows_lens _ _ _ (by simp)⟩
    simp only
    rw [aRows_length]
    simp; omega
  · simp at h
theorem aParse_no {b : List UInt8} (h : (aParse b).ok = false) : aParse b = ⟨[], [], false⟩ := by
  unfold aParse at h ⊢
  simp only at h ⊢
  split at h
  · simp at h
  · rename_i hc; rw [if_neg hc]
theorem rParse_no {b : List UInt8} (h : (rParse b).ok = false) : rParse b = ⟨[], [], false⟩ := by
  unfold rParse at h ⊢
  simp only at h ⊢
  split at h
  · simp at h
  · rename_i hc; rw [if_neg hc]
theorem parse_same (b : List UInt8) : rParse b = aParse b := by
  cases hr : (rParse b).ok with
  | true =>
    obtain ⟨h1, h2, h3, h4⟩ := rParse_inv hr
    have ha := parse_print h2 (fun x hx => by have := h4 x hx; omega) (by omega : (rParse b).rows.length ≤ 1099511627776)
    rw [if_pos ⟨h3, h4⟩] at ha
    rw [h1] at hr
    have hq := rparse_print h2 h3 h4
    rw [← h1] at ha hq
    rw [ha, ← hq]
  | false =>
    cases ha : (aParse b).ok with
    | true =>
      obtain ⟨h1, h2, h3, h4⟩ := aParse_inv ha
      have hq := rparse_print h2 h3 h4
      rw [← h1] at hq
      rw [hq] at hr
      simp at hr
    | false => rw [rParse_no hr, aParse_no ha]
theorem value_same (b : List UInt8) : rValue b = aValue b := by unfold rValue aValue; rw [parse_same]
end Go.Proofs.CfgA
end
section
namespace Go.Proofs.CfgA
open Go Go.Tm Go.Proofs
set_option maxRecDepth 100000
set_option linter.unusedSimpArgs false
/-! ### actions of numbers -/
def textsL : List ByteArray := [ByteArray.empty, ⟨#[97]⟩, ⟨#[104, 105, 32, 116, 104, 101, 114, 101]⟩, ⟨#[45]⟩, ⟨#[120, 121, 122]⟩, ⟨#[48, 49, 50, 51, 52, 53, 54, 55, 56, 57, 48, 49, 50, 51, 52, 53, 54, 55, 56, 57, 48, 49, 50, 51, 52, 53, 54, 55, 56, 57, 48, 49, 50, 51, 52, 53, 54, 55, 56, 57, 48, 49, 50, 51, 52, 53, 54, 55, 56, 57, 48, 49, 50, 51, 52, 53, 54, 55, 56, 57, 48, 49, 50, 51]⟩]
def textsD : List D := textsL.map fun s => .flat (.string s)
def ints (l : List Int) : List D := l.map fun x => .flat (.int .i64 x)
@[simp] theorem ints_length (l : List Int) : (ints l).length = l.length := by simp [ints]
@[simp] theorem ints_get (l : List Int) (i : Nat) : (ints l)[i]? = (l[i]?).map fun x => .flat (.int .i64 x) := by simp [ints]
def actText (x : Int) : ByteArray := textsL.getD (x / 1024 % 256 % 6).toNat ByteArray.empty
def actKind (first : Bool) (x : Int) : Int :=
  if first = true then 1 + x % 256 % 3 else if x % 8 = 7 ∧ 0 < x / 256 % 4 then 6 else 4 + x % 8
def actD (first : Bool) (x : Int) : DoV :=
  if actKind first x = 1 ∨ actKind first x = 10 then ⟨actKind first x, 0, actText x⟩
  else if actKind first x = 2 then ⟨actKind first x, x / 1024 % 4, ByteArray.empty⟩
  else if actKind first x = 7 ∨ actKind first x = 8 then ⟨actKind first x, x / 1024 % 32, ByteArray.empty⟩
  else ⟨actKind first x, 0, ByteArray.empty⟩
theorem six_cases {P : Int → Prop} {j : Int} (h0 : 0 ≤ j) (h : j < 6) (p0 : P 0) (p1 : P 1) (p2 : P 2) (p3 : P 3) (p4 : P 4) (p5 : P 5) : P j := by
  have : j = 0 ∨ j = 1 ∨ j = 2 ∨ j = 3 ∨ j = 4 ∨ j = 5 := by omega
  rcases this with rfl | rfl | rfl | rfl | rfl | rfl <;> assumption
theorem texts_get (x : Int) : textsD[(x / 1024 % 256 % 6).toNat]? = some (.flat (.string (actText x))) := by
  unfold actText
  refine six_cases (P := fun j => textsD[j.toNat]? = some (.flat (.string (textsL.getD j.toNat ByteArray.empty)))) (Int.emod_nonneg _ (by decide)) (Int.emod_lt_of_pos _ (by decide)) rfl rfl rfl rfl rfl rfl
theorem texts_fit (x : Int) : fitsB (actText x) = true := by
  unfold actText
  refine six_cases (P := fun j => fitsB (textsL.getD j.toNat ByteArray.empty) = true) (Int.emod_nonneg _ (by decide)) (Int.emod_lt_of_pos _ (by decide)) ?_ ?_ ?_ ?_ ?_ ?_ <;> decide
theorem actKind_bd (f : Bool) (x : Int) : 1 ≤ actKind f x ∧ actKind f x ≤ 11 ∧ beginK (actKind f x) = f := by
  unfold actKind
  cases f with
  | true =>
    have h : 1 + x % 256 % 3 = 1 ∨ 1 + x % 256 % 3 = 2 ∨ 1 + x % 256 % 3 = 3 := by omega
    simp only [if_true]
    rcases h with h | h | h <;> rw [h] <;> decide
  | false =>
    simp only [Bool.false_eq_true, if_false]
    split
    · decide
    · have h : 4 + x % 8 = 4 ∨ 4 + x % 8 = 5 ∨ 4 + x % 8 = 6 ∨ 4 + x % 8 = 7 ∨ 4 + x % 8 = 8 ∨ 4 + x % 8 = 9 ∨ 4 + x % 8 = 10 ∨ 4 + x % 8 = 11 := by omega
      rcases h with h | h | h | h | h | h | h | h <;> rw [h] <;> decide
theorem actD_kind (f : Bool) (x : Int) : (actD f x).kind = actKind f x := by
  unfold actD
  split
  · rfl
  · split
    · rfl
    · split <;> rfl
theorem actD_right (f : Bool) (x : Int) : rightD (actD f x) = true := by
  obtain ⟨h1, h2, _⟩ := actKind_bd f x
  unfold actD rightD
  generalize actKind f x = k at *
  have a1 := Int.emod_nonneg (x / 1024) (by decide : (4 : Int) ≠ 0)
  have a2 := Int.emod_lt_of_pos (x / 1024) (by decide : (0 : Int) < 4)
  have a3 := Int.emod_nonneg (x / 1024) (by decide : (32 : Int) ≠ 0)
  have a4 := Int.emod_lt_of_pos (x / 1024) (by decide : (0 : Int) < 32)
  have hf := texts_fit x
  have hk : k = 1 ∨ k = 2 ∨ k = 3 ∨ k = 4 ∨ k = 5 ∨ k = 6 ∨ k = 7 ∨ k = 8 ∨ k = 9 ∨ k = 10 ∨ k = 11 := by omega
  rcases hk with rfl | rfl | rfl | rfl | rfl | rfl | rfl | rfl | rfl | rfl | rfl <;> simp [textK, topK, hf] <;> omega
def actsF (first : Bool) : List Int → List DoV
  | [] => []
  | x :: l => actD first x :: actsF false l
/-- The action of numbers. -/
def aActs (l : List Int) : List DoV := match l with
  | [] => [⟨3, 0, ByteArray.empty⟩]
  | l => actsF true (l.take 6)
theorem actsF_length : ∀ (f : Bool) (l : List Int), (actsF f l).length = l.length
  | _, [] => rfl
  | f, x :: l => by simp [actsF, actsF_length false l]
theorem actsF_ok : ∀ (f : Bool) (l : List Int), okDos f (actsF f l) = true
  | _, [] => rfl
  | f, x :: l => by
    have h := (actKind_bd f x).2.2
    simp [actsF, okDos, actD_right, actD_kind, h, actsF_ok false l]
theorem aActs_ok (l : List Int) : okAct (aActs l) = true := by
  cases l with
  | nil => decide
  | cons x l =>
    have h := actsF_ok true ((x :: l).take 6)
    simp only [aActs, okAct, h, Bool.true_and, actsF_length, Bool.and_eq_true, decide_eq_true_eq]
    simp
    omega
end Go.Proofs.CfgA
end
section
namespace Go.Proofs.CfgA
open Go Go.Tm Go.Proofs
set_option maxRecDepth 100000
set_option linter.unusedSimpArgs false
@[simp] theorem ints_getElem (l : List Int) (i : Nat) (h : i < (ints l).length) : (ints l)[i] = .flat (.int .i64 (l[i]'(by simpa using h))) := by simp [ints]
set_option maxHeartbeats 4000000 in
theorem loop21 (l : List Int) (nl2 : Bool) (o2 : Ow) (hnl : nl2 = true → l = []) : ∀ (suf pre : List Int) (a R : List DoV) (m k : Nat) (i : Int) (nl : Bool) (o : Ow) (E : List Nat), l = pre ++ suf → pre.length ≤ 6 → m = a.length → R = a ++ actsF pre.isEmpty (suf.take (6 - pre.length)) → k = R.length → i = pre.length → a.length ≤ pre.length → Own E nl m o → (nl = true → a = []) →
    ∃ nl' o' E' fr, runI cfg 21 n21_10 [(0, .sl nl2 l.length (ints l) o2), (3, .sl nl m (dosD a) o), (4, .sl false 6 textsD .lit), (5, .d (.int .i64 i))] ⟨[], E⟩ =
      some (.exit 0, (0, .sl nl2 l.length (ints l) o2) :: (3, .sl nl' k (dosD R) o') :: fr, ⟨[], E'⟩) ∧ (nl' = true → R = [])
  | [], pre, a, R, m, k, i, nl, o, E, hl, h6, h1, h2, h3, h4, h5, ho, hna => by
    simp [actsF] at h2
    subst h1 h2 h3 h4
    refine ⟨nl, o, E, ?_⟩
    simp [l21_10, hl]
    exact hna
  | x :: suf, pre, a, R, m, k, i, nl, o, E, hl, h6, h1, h2, h3, h4, h5, ho, hna => by
    subst h1 h3 h4
    have hi : pre.length < l.length := by rw [hl]; simp
    have hi' : (pre.length : Int) < l.length := by omega
    by_cases hfull : pre.length = 6
    · rw [hfull] at h2
      simp [actsF] at h2
      subst h2
      refine ⟨nl, o, E, ?_⟩
      have hfull' : ¬ ((pre.length : Int) < 6) := by omega
      simp [l21_10, hi', hfull']
      exact hna
    · have h7 : (pre.length : Int) < 6 := by omega
      have hg : l[pre.length]? = some x := by simp [hl]
      have hg2 : l[pre.length] = x := by simp [hl]
      have hnl' : nl2 = false := by cases nl2 with | false => rfl | true => exact absurd (hnl rfl) (by rw [hl]; simp)
      subst hnl'
      have he : (pre ++ [x]).isEmpty = false := by simp
      have htk : (x :: suf).take (6 - pre.length) = x :: suf.take (6 - (pre.length + 1)) := by
        rw [show 6 - pre.length = (6 - (pre.length + 1)) + 1 by omega]; rfl
      rw [htk] at h2
      simp only [actsF] at h2
      have hix := ixV_sl (n := 1) (m := l.length) (cs := ints l) (o := o2) (k := .i64) (i := (pre.length : Int)) (by omega) hi'
      simp only [Int.toNat_natCast, Nat.mul_one] at hix
      have hw : IntKind.i64.wrap ((pre.length : Int) + 1) = pre.length + 1 := w64 (by omega) (by omega)
      have hA7 : ∀ o t, binV cfg.P o .and t (.int .i64) (.d (.int .i64 x)) (.d (.int .i64 7)) = some (.d (.int .i64 (x % 8))) := fun o t => binV_mask 3 7 rfl (by omega)
      have hA255 : ∀ o t, binV cfg.P o .and t (.int .i64) (.d (.int .i64 x)) (.d (.int .i64 255)) = some (.d (.int .i64 (x % 256))) := fun o t => binV_mask 8 255 rfl (by omega)
      have n256 : 0 ≤ x % 256 := Int.emod_nonneg _ (by decide)
      have hR3 : ∀ o t, binV cfg.P o .rem t (.int .i64) (.d (.int .i64 (x % 256))) (.d (.int .i64 3)) = some (.d (.int .i64 (x % 256 % 3))) := fun o t => by rw [← Int.tmod_eq_emod_of_nonneg n256]; exact binV_rem (by decide)
      have hS8 : ∀ o t, binV cfg.P o .shr t (.int .i64) (.d (.int .i64 x)) (.d (.int .u64 8)) = some (.d (.int .i64 (x / 256))) := fun o t => by rw [binV_shr (by decide), Int.fdiv_eq_ediv_of_nonneg _ (by decide)]; rfl
      have hS10 : ∀ o t, binV cfg.P o .shr t (.int .i64) (.d (.int .i64 x)) (.d (.int .u64 10)) = some (.d (.int .i64 (x / 1024))) := fun o t => by rw [binV_shr (by decide), Int.fdiv_eq_ediv_of_nonneg _ (by decide)]; rfl
      have hM3 : ∀ o t, binV cfg.P o .and t (.int .i64) (.d (.int .i64 (x / 256))) (.d (.int .i64 3)) = some (.d (.int .i64 (x / 256 % 4))) := fun o t => binV_mask 2 3 rfl (by omega)
      have hN3 : ∀ o t, binV cfg.P o .and t (.int .i64) (.d (.int .i64 (x / 1024))) (.d (.int .i64 3)) = some (.d (.int .i64 (x / 1024 % 4))) := fun o t => binV_mask 2 3 rfl (by omega)
      have hN31 : ∀ o t, binV cfg.P o .and t (.int .i64) (.d (.int .i64 (x / 1024))) (.d (.int .i64 31)) = some (.d (.int .i64 (x / 1024 % 32))) := fun o t => binV_mask 5 31 rfl (by omega)
      have hN255 : ∀ o t, binV cfg.P o .and t (.int .i64) (.d (.int .i64 (x / 1024))) (.d (.int .i64 255)) = some (.d (.int .i64 (x / 1024 % 256))) := fun o t => binV_mask 8 255 rfl (by omega)
      have n256' : 0 ≤ x / 1024 % 256 := Int.emod_nonneg _ (by decide)
      have hR6 : ∀ o t, binV cfg.P o .rem t (.int .i64) (.d (.int .i64 (x / 1024 % 256))) (.d (.int .i64 6)) = some (.d (.int .i64 (x / 1024 % 256 % 6))) := fun o t => by rw [← Int.tmod_eq_emod_of_nonneg n256']; exact binV_rem (by decide)
      have hT := ixV_sl (n := 1) (m := 6) (cs := textsD) (o := .lit) (k := .i64) (i := x / 1024 % 256 % 6) (Int.emod_nonneg _ (by decide)) (by have := Int.emod_lt_of_pos (x / 1024 % 256) (by decide : (0 : Int) < 6); omega)
      rw [Nat.mul_one] at hT
      have hTx := texts_get x
      obtain ⟨o3, E3, ha, hown⟩ := app_own (st := ⟨[.cells (actD pre.isEmpty x).t], E⟩) (n := 3) (b := 32) (k := 1) (cs := dosD a) (ys := (actD pre.isEmpty x).d) (nl' := false) (o' := .lit) ho (by simp) rfl (by omega) (by unfold roomB; omega)
      obtain ⟨nl', o', E', fr, ih, ihn⟩ := loop21 l false o2 hnl suf (pre ++ [x]) (a ++ [actD pre.isEmpty x]) R (a.length + 1) R.length ((pre.length : Int) + 1) false o3 E3 (by simp [hl]) (by simp; omega) (by simp) (by rw [h2, he]; simp) rfl (by simp) (by simp; omega) hown (fun h => by simp at h)
      refine ⟨nl', o', E', fr, ?_, ihn⟩
      rw [dosD_append, ← dosD_one] at ih
      cases pre with
      | nil =>
        simp only [List.isEmpty_nil] at ih ha
        simp at hix hg hg2 hw hi'
        have hk : x % 256 % 3 = 0 ∨ x % 256 % 3 = 1 ∨ x % 256 % 3 = 2 := by omega
        rcases hk with hk | hk | hk
        · have hd : actD true x = ⟨1, 0, actText x⟩ := by simp [actD, actKind, hk]
          have w1 : IntKind.i64.wrap (1 + x % 256 % 3) = 1 := by rw [hk]; rfl
          have w2 : IntKind.i64.wrap (4 + x % 8) = 4 + x % 8 := w64 (by omega) (by omega)
          rw [hd] at ih ha
          simp only [DoV.t, DoV.d] at ih ha
          rw [l21_10]
          simp [hi', hix, hg, hg2, h7, hA7, hA255, hR3, hS8, hS10, hM3, hN3, hN31, hN255, hR6, hT, hTx, w1, w2,  putAt, repeatL, ha, hw]
          rw [gcT_cut (by simp) (by simp) (by simp)]
          simpa using ih
        · have hd : actD true x = ⟨2, x / 1024 % 4, ByteArray.empty⟩ := by simp [actD, actKind, hk]
          have w1 : IntKind.i64.wrap (1 + x % 256 % 3) = 2 := by rw [hk]; rfl
          have w2 : IntKind.i64.wrap (4 + x % 8) = 4 + x % 8 := w64 (by omega) (by omega)
          rw [hd] at ih ha
          simp only [DoV.t, DoV.d] at ih ha
          rw [l21_10]
          simp [hi', hix, hg, hg2, h7, hA7, hA255, hR3, hS8, hS10, hM3, hN3, hN31, hN255, hR6, hT, hTx, w1, w2,  putAt, repeatL, ha, hw]
          rw [gcT_cut (by simp) (by simp) (by simp)]
          simpa using ih
        · have hd : actD true x = ⟨3, 0, ByteArray.empty⟩ := by simp [actD, actKind, hk]
          have w1 : IntKind.i64.wrap (1 + x % 256 % 3) = 3 := by rw [hk]; rfl
          have w2 : IntKind.i64.wrap (4 + x % 8) = 4 + x % 8 := w64 (by omega) (by omega)
          rw [hd] at ih ha
          simp only [DoV.t, DoV.d] at ih ha
          rw [l21_10]
          simp [hi', hix, hg, hg2, h7, hA7, hA255, hR3, hS8, hS10, hM3, hN3, hN31, hN255, hR6, hT, hTx, w1, w2,  putAt, repeatL, ha, hw]
          rw [gcT_cut (by simp) (by simp) (by simp)]
          simpa using ih
      | cons p0 pre0 =>
        simp only [List.isEmpty_cons] at ih ha
        have hpl : 0 < (p0 :: pre0).length := by simp
        generalize (p0 :: pre0).length = pl at *
        have hne : ¬ (pl = 0) := by omega
        have hk : x % 8 = 0 ∨ x % 8 = 1 ∨ x % 8 = 2 ∨ x % 8 = 3 ∨ x % 8 = 4 ∨ x % 8 = 5 ∨ x % 8 = 6 ∨ x % 8 = 7 := by omega
        rcases hk with hk | hk | hk | hk | hk | hk | hk | hk
        · have hd : actD false x = ⟨4, 0, ByteArray.empty⟩ := by simp [actD, actKind, hk]
          have w1 : IntKind.i64.wrap (4 + x % 8) = 4 := by rw [hk]; rfl
          have w2 : True := trivial
          rw [hd] at ih ha
          simp only [DoV.t, DoV.d] at ih ha
          rw [l21_10]
          simp [hi', hix, hg, hg2, h7, hA7, hA255, hR3, hS8, hS10, hM3, hN3, hN31, hN255, hR6, hT, hTx, w1, w2, hne,  putAt, repeatL, ha, hw]
          rw [gcT_cut (by simp) (by simp) (by simp)]
          simpa using ih
        · have hd : actD false x = ⟨5, 0, ByteArray.empty⟩ := by simp [actD, actKind, hk]
          have w1 : IntKind.i64.wrap (4 + x % 8) = 5 := by rw [hk]; rfl
          have w2 : True := trivial
          rw [hd] at ih ha
          simp only [DoV.t, DoV.d] at ih ha
          rw [l21_10]
          simp [hi', hix, hg, hg2, h7, hA7, hA255, hR3, hS8, hS10, hM3, hN3, hN31, hN255, hR6, hT, hTx, w1, w2, hne,  putAt, repeatL, ha, hw]
          rw [gcT_cut (by simp) (by simp) (by simp)]
          simpa using ih
        · have hd : actD false x = ⟨6, 0, ByteArray.empty⟩ := by simp [actD, actKind, hk]
          have w1 : IntKind.i64.wrap (4 + x % 8) = 6 := by rw [hk]; rfl
          have w2 : True := trivial
          rw [hd] at ih ha
          simp only [DoV.t, DoV.d] at ih ha
          rw [l21_10]
          simp [hi', hix, hg, hg2, h7, hA7, hA255, hR3, hS8, hS10, hM3, hN3, hN31, hN255, hR6, hT, hTx, w1, w2, hne,  putAt, repeatL, ha, hw]
          rw [gcT_cut (by simp) (by simp) (by simp)]
          simpa using ih
        · have hd : actD false x = ⟨7, x / 1024 % 32, ByteArray.empty⟩ := by simp [actD, actKind, hk]
          have w1 : IntKind.i64.wrap (4 + x % 8) = 7 := by rw [hk]; rfl
          have w2 : True := trivial
          rw [hd] at ih ha
          simp only [DoV.t, DoV.d] at ih ha
          rw [l21_10]
          simp [hi', hix, hg, hg2, h7, hA7, hA255, hR3, hS8, hS10, hM3, hN3, hN31, hN255, hR6, hT, hTx, w1, w2, hne,  putAt, repeatL, ha, hw]
          rw [gcT_cut (by simp) (by simp) (by simp)]
          simpa using ih
        · have hd : actD false x = ⟨8, x / 1024 % 32, ByteArray.empty⟩ := by simp [actD, actKind, hk]
          have w1 : IntKind.i64.wrap (4 + x % 8) = 8 := by rw [hk]; rfl
          have w2 : True := trivial
          rw [hd] at ih ha
          simp only [DoV.t, DoV.d] at ih ha
          rw [l21_10]
          simp [hi', hix, hg, hg2, h7, hA7, hA255, hR3, hS8, hS10, hM3, hN3, hN31, hN255, hR6, hT, hTx, w1, w2, hne,  putAt, repeatL, ha, hw]
          rw [gcT_cut (by simp) (by simp) (by simp)]
          simpa using ih
        · have hd : actD false x = ⟨9, 0, ByteArray.empty⟩ := by simp [actD, actKind, hk]
          have w1 : IntKind.i64.wrap (4 + x % 8) = 9 := by rw [hk]; rfl
          have w2 : True := trivial
          rw [hd] at ih ha
          simp only [DoV.t, DoV.d] at ih ha
          rw [l21_10]
          simp [hi', hix, hg, hg2, h7, hA7, hA255, hR3, hS8, hS10, hM3, hN3, hN31, hN255, hR6, hT, hTx, w1, w2, hne,  putAt, repeatL, ha, hw]
          rw [gcT_cut (by simp) (by simp) (by simp)]
          simpa using ih
        · have hd : actD false x = ⟨10, 0, actText x⟩ := by simp [actD, actKind, hk]
          have w1 : IntKind.i64.wrap (4 + x % 8) = 10 := by rw [hk]; rfl
          have w2 : True := trivial
          rw [hd] at ih ha
          simp only [DoV.t, DoV.d] at ih ha
          rw [l21_10]
          simp [hi', hix, hg, hg2, h7, hA7, hA255, hR3, hS8, hS10, hM3, hN3, hN31, hN255, hR6, hT, hTx, w1, w2, hne,  putAt, repeatL, ha, hw]
          rw [gcT_cut (by simp) (by simp) (by simp)]
          simpa using ih
        · by_cases hpos : 0 < x / 256 % 4
          · have hd : actD false x = ⟨6, 0, ByteArray.empty⟩ := by simp [actD, actKind, hk, hpos]
            have w1 : IntKind.i64.wrap (4 + x % 8) = 11 := by rw [hk]; rfl
            have w2 : True := trivial
            rw [hd] at ih ha
            simp only [DoV.t, DoV.d] at ih ha
            rw [l21_10]
            simp [hi', hix, hg, hg2, h7, hA7, hA255, hR3, hS8, hS10, hM3, hN3, hN31, hN255, hR6, hT, hTx, w1, w2, hne, hpos,  putAt, repeatL, ha, hw]
            rw [gcT_cut (by simp) (by simp) (by simp)]
            simpa using ih
          · have hd : actD false x = ⟨11, 0, ByteArray.empty⟩ := by simp [actD, actKind, hk, hpos]
            have w1 : IntKind.i64.wrap (4 + x % 8) = 11 := by rw [hk]; rfl
            have w2 : True := trivial
            rw [hd] at ih ha
            simp only [DoV.t, DoV.d] at ih ha
            rw [l21_10]
            simp [hi', hix, hg, hg2, h7, hA7, hA255, hR3, hS8, hS10, hM3, hN3, hN31, hN255, hR6, hT, hTx, w1, w2, hne, hpos,  putAt, repeatL, ha, hw]
            rw [gcT_cut (by simp) (by simp) (by simp)]
            simpa using ih
theorem act_run {l : List Int} {nl : Bool} {n : Nat} {o : Ow} {st : St} (hn : n = l.length) (hnl : nl = true → l = []) :
    ∃ nl' o' E', callI cfg 21 [.sl nl n (ints l) o] st = some (.sl nl' (aActs l).length (dosD (aActs l)) o', ⟨st.H, E'⟩) ∧ (nl' = true → aActs l = []) := by
  subst hn
  obtain ⟨nl', o', E', fr, hl, hn⟩ := loop21 l nl (closeO o) hnl l [] [] (actsF true (l.take 6)) 0 _ 0 true .ex [] rfl (by simp) rfl rfl rfl rfl (Nat.le_refl _) own_ex (by simp)
  have htx : textsD = [.flat (.string ByteArray.empty), .flat (.string ⟨#[97]⟩), .flat (.string ⟨#[104, 105, 32, 116, 104, 101, 114, 101]⟩), .flat (.string ⟨#[45]⟩), .flat (.string ⟨#[120, 121, 122]⟩), .flat (.string ⟨#[48, 49, 50, 51, 52, 53, 54, 55, 56, 57, 48, 49, 50, 51, 52, 53, 54, 55, 56, 57, 48, 49, 50, 51, 52, 53, 54, 55, 56, 57, 48, 49, 50, 51, 52, 53, 54, 55, 56, 57, 48, 49, 50, 51, 52, 53, 54, 55, 56, 57, 48, 49, 50, 51, 52, 53, 54, 55, 56, 57, 48, 49, 50, 51]⟩)] := rfl
  rw [htx, dosD_nil] at hl
  cases l with
  | nil =>
    simp [actsF] at hl
    have haa : aActs [] = [⟨3, 0, ByteArray.empty⟩] := rfl
    have hd : dosD [⟨3, 0, ByteArray.empty⟩] = [.flat (.int .i64 3), .flat (.int .i64 0), .flat (.string ByteArray.empty)] := rfl
    rw [haa, hd]
    obtain ⟨o3, E3, hret⟩ := ret_sl (s := ⟨[], E'⟩) (st := st) (nl := false) (n := 1) (cs := [.flat (.int .i64 3), .flat (.int .i64 0), .flat (.string ByteArray.empty)]) (o := .lit)
    refine ⟨false, o3, E3, ?_, by simp⟩
    simp [c21, putAt, repeatL, hl, hret]
  | cons x l =>
    have hne : (actsF true ((x :: l).take 6)).length ≠ 0 := by rw [actsF_length]; simp
    have haa : aActs (x :: l) = actsF true ((x :: l).take 6) := rfl
    rw [haa]
    generalize actsF true ((x :: l).take 6) = R at *
    obtain ⟨o3, E3, hret⟩ := ret_sl (s := ⟨[], E'⟩) (st := st) (nl := nl') (n := R.length) (cs := dosD R) (o := o')
    have hR : R ≠ [] := fun h => hne (by rw [h]; rfl)
    refine ⟨nl', o3, E3, ?_, hn⟩
    simp at hl
    simp [c21, putAt, repeatL, hl, hR, hret]
end Go.Proofs.CfgA
end
section
namespace Go.Proofs.CfgA
open Go Go.Tm Go.Proofs
set_option maxRecDepth 100000
set_option linter.unusedSimpArgs false
/-! ### PrntApart -/
/-- Two prints are one just if their actions and their rows are. -/
theorem prnP_inj {l l' : List DoV} {R R' : List (List UInt8)} (h : okAct l = true) (h' : okAct l' = true) (hn : R.length ≤ 8) (hn' : R'.length ≤ 8) (hr : ∀ x ∈ R, x.length ≤ 256) (hr' : ∀ x ∈ R', x.length ≤ 256) : prnP l R = prnP l' R' ↔ l = l' ∧ R = R' := by
  constructor
  · intro he
    have h1 := rparse_print h hn hr
    have h2 := rparse_print h' hn' hr'
    rw [he, h2] at h1
    injection h1 with a1 a2 _
    exact ⟨a1.symm, a2.symm⟩
  · rintro ⟨rfl, rfl⟩; rfl
theorem loop7 (l : List Row) (nl2 : Bool) (o2 : Ow) (hnl : nl2 = true → l = []) (hm : l.length ≤ 1000000) (x0 x1 x3 x4 : T) : ∀ (suf pre : List Row) (i : Int), l = pre ++ suf → i = pre.length →
    ((∀ r ∈ suf, r.2.length ≤ 256) → ∃ fr, runI cfg 7 n7_12 [(0, x0), (1, x1), (2, .sl nl2 l.length (rowsD l) o2), (3, x3), (4, x4), (32, .d (.int .i64 l.length)), (33, .d (.int .i64 i))] ⟨[], []⟩ =
      some (.exit 0, (0, x0) :: (1, x1) :: (2, .sl nl2 l.length (rowsD l) o2) :: (3, x3) :: (4, x4) :: fr, ⟨[], []⟩)) ∧
    ((¬ ∀ r ∈ suf, r.2.length ≤ 256) → runI cfg 7 n7_12 [(0, x0), (1, x1), (2, .sl nl2 l.length (rowsD l) o2), (3, x3), (4, x4), (32, .d (.int .i64 l.length)), (33, .d (.int .i64 i))] ⟨[], []⟩ =
      some (.ret, [(10, .d (.bool true))], ⟨[], []⟩))
  | [], pre, i, hl, hi => by
    subst hi
    constructor
    · intro _
      simp [l7_12, hl]
    · intro h; exact absurd (by simp) h
  | d :: suf, pre, i, hl, hi => by
    subst hi
    have hlt : pre.length < l.length := by rw [hl]; simp
    have hlt' : (pre.length : Int) < l.length := by omega
    have hg : l[pre.length]? = some d := by simp [hl]
    have hg2 : l[pre.length] = d := by simp [hl]
    have hnl' : nl2 = false := by cases nl2 with | false => rfl | true => exact absurd (hnl rfl) (by rw [hl]; simp)
    subst hnl'
    have hix := ixV_sl (n := 1) (m := l.length) (cs := rowsD l) (o := o2) (k := .i64) (i := (pre.length : Int)) (by omega) hlt'
    simp only [Int.toNat_natCast, Nat.mul_one] at hix
    have hw : IntKind.i64.wrap ((pre.length : Int) + 1) = pre.length + 1 := w64 (by omega) (by omega)
    have hawk := awake_st
    by_cases hd : 256 < d.2.length
    · have hd' : (256 : Int) < d.2.length := by omega
      constructor
      · intro h; have := h d (by simp); omega
      · intro _
        rw [l7_12]
        simp [hlt', hix, hg, hg2, hd', hawk]
    · have hd' : ¬ (256 : Int) < d.2.length := by omega
      obtain ⟨ih1, ih2⟩ := loop7 l false o2 hnl hm x0 x1 x3 x4 suf (pre ++ [d]) ((pre.length : Int) + 1) (by simp [hl]) (by simp)
      have front : runI cfg 7 n7_12 [(0, x0), (1, x1), (2, .sl false l.length (rowsD l) o2), (3, x3), (4, x4), (32, .d (.int .i64 l.length)), (33, .d (.int .i64 pre.length))] ⟨[], []⟩ =
          runI cfg 7 n7_12 [(0, x0), (1, x1), (2, .sl false l.length (rowsD l) o2), (3, x3), (4, x4), (32, .d (.int .i64 l.length)), (33, .d (.int .i64 ((pre.length : Int) + 1)))] ⟨[], []⟩ := by
        rw [l7_12]
        simp [hlt', hix, hg, hg2, hd', hw]
        rw [gcT_stay (by simp)]
      rw [front]
      constructor
      · intro h; exact ih1 (fun r hr => h r (by simp [hr]))
      · intro h
        refine ih2 (fun hall => h fun r hr => ?_)
        rcases List.mem_cons.1 hr with rfl | hr
        · omega
        · exact hall r hr
end Go.Proofs.CfgA
end
section
namespace Go.Proofs.CfgA
open Go Go.Tm Go.Proofs
set_option maxRecDepth 100000
set_option linter.unusedSimpArgs false
theorem rowT_toDs : ∀ (l : List D), T.toDs (l.map D.toT) = some l
  | [] => rfl
  | d :: l => by
    have := rowT_toDs l
    cases d <;> simp [D.toT, this]
theorem turn7 {R : List Row} {k : Nat} {at_ : Int} {x0 x1 y z : T} {o2 : Ow} {d : Row} (hk : at_ % 256 % R.length = k) (hg : R[k]? = some d) (h8 : R.length ≤ 8) (hd : d.2.length ≤ 256) (h0 : x0.lo 0 = true) (h1 : x1.lo 0 = true) :
    ∃ nl' E', (nl' = true → d.2.take 255 ++ [ub (at_ / 256)] = []) ∧ runI cfg 7 n7_37 [(0, x0), (1, x1), (2, .sl false R.length (rowsD R) o2), (3, .d (.int .i64 at_)), (12, y), (51, z)] ⟨[], []⟩ =
      some (.normal, [(0, x0), (1, x1), (2, .sl false R.length (rowsD R) o2), (12, .sl false R.length ((rowsD R).set k (.slc nl' (d.2.take 255 ++ [ub (at_ / 256)]).length (u8s (d.2.take 255 ++ [ub (at_ / 256)])))) .ro)], ⟨[], E'⟩) := by
  have hkl : k < R.length := (List.getElem?_eq_some_iff.1 hg).1
  have hg2 : R[k] = d := (List.getElem?_eq_some_iff.1 hg).2
  have hA : ∀ o t, binV cfg.P o .and t (.int .i64) (.d (.int .i64 at_)) (.d (.int .i64 255)) = some (.d (.int .i64 (at_ % 256))) := fun o t => binV_mask 8 255 rfl (by omega)
  have n256 : 0 ≤ at_ % 256 := Int.emod_nonneg _ (by decide)
  have hR : ∀ o t, binV cfg.P o .rem t (.int .i64) (.d (.int .i64 (at_ % 256))) (.d (.int .i64 R.length)) = some (.d (.int .i64 k)) := fun o t => by
    rw [← hk, ← Int.tmod_eq_emod_of_nonneg n256]; exact binV_rem (by omega)
  have hS : ∀ o t, binV cfg.P o .shr t (.int .i64) (.d (.int .i64 at_)) (.d (.int .u64 8)) = some (.d (.int .i64 (at_ / 256))) := fun o t => by rw [binV_shr (by decide), Int.fdiv_eq_ediv_of_nonneg _ (by decide)]; rfl
  have happ := appV_litS (n := 1) (m := 0) (cs := []) (nl := false) (st := ⟨[], []⟩) (b := 24) (k := R.length) (ys := rowsD R) (nl' := false) (o' := o2) rfl (by simp) (by omega) (by unfold roomB; omega)
  have hix := ixV_sl (n := 1) (m := R.length) (cs := rowsD R) (o := o2) (k := .i64) (i := (k : Int)) (by omega) (by omega)
  simp only [Int.toNat_natCast, Nat.mul_one] at hix
  have hixl := ixV_loc (n := 1) (m := R.length) (id := 0) (off := 0) (c := R.length) (k := .i64) (i := (k : Int)) (by omega) (by omega)
  simp only [Int.toNat_natCast, Nat.mul_one, Nat.zero_add] at hixl
  have hsl := sliceV_hi (n := 1) (m := d.2.length) (nl := d.1 && d.2.isEmpty) (cs := u8s d.2) (o := .ro) (k := .i64) (j := min (d.2.length : Int) 255) (e := 5) (by simp) (by omega) (by omega)
  have e1 : (min (d.2.length : Int) 255).toNat = (d.2.take 255).length := by simp; omega
  have e2 : d.2.take (d.2.take 255).length = d.2.take 255 := by
    rw [List.length_take]
    by_cases h : 255 ≤ d.2.length
    · rw [Nat.min_eq_left h]
    · rw [Nat.min_eq_right (by omega), List.take_of_length_le (Nat.le_refl _), List.take_of_length_le (by omega)]
  rw [e1, Nat.mul_one, u8s_take, e2] at hsl
  have e4 : (d.2.take 255).length ≤ 255 := by simp; omega
  generalize d.2.take 255 = p at *
  have hwr : IntKind.u8.wrap (at_ / 256) = (ub (at_ / 256)).toNat := by rw [wrap8, ub_nat]
  obtain ⟨nl1, o1, E1, ha1, hown1, hn1⟩ := app_row (st := ⟨[.cells ((rowsD R).map D.toT)], []⟩) (m := 0) (nl := false) (cs := []) (o := .lit) (nl' := d.1 && d.2.isEmpty) (o' := cutO .ro d.2.length 0 p.length none) (x := p) (.inr (.inl rfl)) rfl (by unfold roomB; omega)
  obtain ⟨o3, E3, ha2, _⟩ := app_own (st := ⟨[.cells ((rowsD R).map D.toT)], E1⟩) (n := 1) (b := 1) (k := 1) (cs := [] ++ u8s p) (ys := [D.flat (.int .u8 (ub (at_ / 256)).toNat)]) (nl' := false) (o' := .lit) hown1 (by simp) rfl (by omega) (by unfold roomB; omega)
  have hds : T.toDs (((rowsD R).map D.toT).set k (.sl false (p.length + 1) (u8s p ++ [D.flat (.int .u8 (ub (at_ / 256)).toNat)]) o3)) = some ((rowsD R).set k (.slc false (p.length + 1) (u8s p ++ [D.flat (.int .u8 (ub (at_ / 256)).toNat)]))) := by
    have key : ∀ (l : List D) (k : Nat) (t : T) (q : D), T.toD t = some q → T.toDs ((l.map D.toT).set k t) = some (l.set k q) := by
      intro l
      induction l with
      | nil => intro k t q _; simp
      | cons a l ih =>
        intro k t q h
        cases k with
        | zero =>
          have := rowT_toDs l
          simp [h, this]
        | succ k =>
          have := ih k t q h
          cases a <;> simp [D.toT, this]
    exact key _ _ _ _ rfl
  have hds2 := hds
  rw [List.set_eq_take_append_cons_drop, if_pos (by simpa using hkl)] at hds2
  have hk1 : k + 1 ≤ R.length := hkl
  refine ⟨false, E3, fun h => by simp at h, ?_⟩
  rw [u8s_append, ← u8c_one]
  simp at happ ha1 ha2 hix hixl hsl
  simp [hA, hR, hS, putAt, repeatL, happ, boxV, hix, hg, hg2, hixl, hsl, ha1, ha2, hwr, frzT, hds2, h0, h1, hk1]
end Go.Proofs.CfgA
end
section
namespace Go.Proofs.CfgA
open Go Go.Tm Go.Proofs
set_option maxRecDepth 100000
set_option linter.unusedSimpArgs false
theorem strOf_inj {a b : List UInt8} : strOf a = strOf b ↔ a = b := by
  constructor
  · intro h
    have := congrArg (fun s : ByteArray => s.data.toList) h
    simpa [strOf] using this
  · rintro rfl; rfl
theorem print_bd {A : List DoV} {R : List Row} (h : okAct A = true) (hn : R.length ≤ 8) (hr : ∀ r ∈ R, r.2.length ≤ 256) : (prnB A R).length ≤ 5000 := by
  obtain ⟨h1, _, h3⟩ := okAct_facts h
  have := prnP_bd (T := 64) (c := 256) (rows := R.map (·.2)) h1 (fun d hd => (right_bounds (h3 d hd)).2.2.2.2) (by simp; omega) (fun x hx => by
    obtain ⟨r, hr', rfl⟩ := List.mem_map.1 hx
    exact hr r hr')
  rw [prnB_P]; omega
end Go.Proofs.CfgA
end
section
namespace Go.Proofs.CfgA
open Go Go.Tm Go.Proofs
set_option maxRecDepth 100000
set_option linter.unusedSimpArgs false
theorem tail7 {l m : List Int} {R X : List Row} {nlL nlM nlR nlX : Bool} {oL oM oR oX : Ow} {E : List Nat} (hL : nlL = true → l = []) (hM : nlM = true → m = []) (hnR : nlR = true → R = []) (hnX : nlX = true → X = [])
    (hR8 : R.length ≤ 8) (hX8 : X.length ≤ 8) (hR : ∀ r ∈ R, r.2.length ≤ 256) (hX : ∀ r ∈ X, r.2.length ≤ 256)
    (hcmp : decide (strOf (prnB (aActs l) R) = strOf (prnB (aActs m) X)) = (sameD (aActs l) (aActs m) && sameR R X)) (hsd : ∀ A, sameD A A = true) :
    ∃ frx st', ∀ fr, lookF fr 0 = some (.sl nlL l.length (ints l) oL) → lookF fr 1 = some (.sl nlM m.length (ints m) oM) → lookF fr 2 = some (.sl nlR R.length (rowsD R) oR) → lookF fr 12 = some (.sl nlX X.length (rowsD X) oX) → runI cfg 7 n7_43 fr ⟨[], E⟩ = some (.ret, (10, .d (.bool true)) :: frx, st') := by
  have okA := aActs_ok l
  have okB := aActs_ok m
  obtain ⟨nlA, oA, EA, k1, hnA⟩ := act_run (l := l) (nl := nlL) (n := l.length) (o := oL) (st := ⟨[], E⟩) rfl hL
  obtain ⟨nlB, oB, EB, k2, hnB⟩ := act_run (l := m) (nl := nlM) (n := m.length) (o := oM) (st := ⟨[], EA⟩) rfl hM
  have bdP := print_bd okA hR8 hR
  have bdQ := print_bd okB hX8 hX
  obtain ⟨a1, a2, a3⟩ := okAct_facts okA
  obtain ⟨b1, b2, b3⟩ := okAct_facts okB
  obtain ⟨oP, EP, k3⟩ := print_run (l := aActs l) (ins := R) (nl := nlA) (nl2 := nlR) (n := (aActs l).length) (n2 := R.length) (o := oA) (o2 := oR) (st := ⟨[], EB⟩) rfl hnA (by omega) rfl hnR (by omega) (by unfold roomB; omega)
  obtain ⟨oQ, EQ, k4⟩ := print_run (l := aActs m) (ins := X) (nl := nlB) (nl2 := nlX) (n := (aActs m).length) (n2 := X.length) (o := oB) (o2 := oX) (st := ⟨[], EP⟩) rfl hnB (by omega) rfl hnX (by omega) (by unfold roomB; omega)
  have k5 := fun st => sameact_run (x := aActs l) (y := aActs m) (nl := nlA) (nl2 := nlB) (m := (aActs l).length) (n := (aActs m).length) (o := oA) (o2 := oB) (st := st) rfl rfl hnA hnB (by omega)
  have k6 := fun st => samerows_run (x := R) (y := X) (nl := nlR) (nl2 := nlX) (m := R.length) (n := X.length) (o := oR) (o2 := oX) (st := st) rfl rfl hnR hnX (by omega)
  have hRm : ∀ x ∈ R.map (·.2), x.length ≤ 256 := fun x hx => by
    obtain ⟨r, hr', rfl⟩ := List.mem_map.1 hx
    exact hR r hr'
  have hpar := parse_print (l := aActs l) (rows := R.map (·.2)) okA (fun x hx => by have := hRm x hx; omega) (by simp; omega)
  rw [if_pos ⟨by simp; omega, hRm⟩, ← prnB_P] at hpar
  obtain ⟨nl1, o1, nl2, o2, E7, R2, k7, hn1, hn2, hR2⟩ := parse_run (b := prnB (aActs l) R) (nl := false) (n := (prnB (aActs l) R).length) (o := oP) (st := ⟨[], EQ⟩) rfl (by simp) (by unfold roomB; omega)
  have hfl : (R.map (·.2)).flatten.length ≤ roomB := by
    refine Nat.le_trans (flatten_le 256 _ hRm) ?_
    rw [List.length_map]; unfold roomB; omega
  have htx : ∀ d ∈ aActs l, d.text.size ≤ roomB := fun d hd => by have := (right_bounds (a3 d hd)).2.2.2.2; unfold roomB; omega
  obtain ⟨nlV, oV, E8, k8, hnV⟩ := value_run (b := prnB (aActs l) R) (nl := false) (n := (prnB (aActs l) R).length) (o := oP) (st := ⟨[], E7⟩) rfl (by simp) (by unfold roomB; omega) (by rw [hpar]; exact htx) (by rw [hpar]; show (aActs l).length ≤ 1000000; omega) (by rw [hpar]; intro r hr; have := hRm r hr; unfold roomB; omega) (by rw [hpar]; simp; unfold roomB; omega) (by rw [hpar]; exact hfl)
  obtain ⟨nlW, oW, E9, k9, hnW⟩ := rrun_run (l := aActs l) (ins := R) (nl := nlA) (nl2 := nlR) (n := (aActs l).length) (n2 := R.length) (o := oA) (o2 := oR) (st := ⟨[], E8⟩) rfl hnA (by omega) htx rfl hnR (fun r hr => by have := hR r hr; unfold roomB; omega) (by omega) hfl
  have hval : aValue (prnB (aActs l) R) = runA (aActs l) (R.map (·.2)) := by simp [aValue, hpar]
  rw [hval] at k8
  rw [hpar] at k7 hn1 hR2
  simp only at k7 hn1 hR2
  have k10 := fun st => sameact_run (x := aActs l) (y := aActs l) (nl := nl1) (nl2 := nlA) (m := (aActs l).length) (n := (aActs l).length) (o := o1) (o2 := oA) (st := st) rfl rfl hn1 hnA (by omega)
  rw [hsd] at k10
  have k11 := fun st => samerows_run (x := R2) (y := R) (nl := nl2) (nl2 := nlR) (m := R2.length) (n := R.length) (o := o2) (o2 := oR) (st := st) rfl rfl hn2 hnR (by have := congrArg List.length hR2; simp at this; omega)
  have hsame : sameR R2 R = true := (sameR_iff _ _).2 hR2
  rw [hsame] at k11
  have c1 := fun o => conv_bs' (P := cfg.P) (o := o) (e := 5) (nl := false) (w := oP) (l := prnB (aActs l) R) (n := (prnB (aActs l) R).length) rfl
  have c2 := fun o => conv_bs' (P := cfg.P) (o := o) (e := 5) (nl := false) (w := oQ) (l := prnB (aActs m) X) (n := (prnB (aActs m) X).length) rfl
  generalize runA (aActs l) (R.map (·.2)) = V at *
  have c3 := fun o => conv_bs' (P := cfg.P) (o := o) (e := 5) (nl := nlV) (w := oV) (l := V.getD []) (n := (V.getD []).length) rfl
  have c4 := fun o => conv_bs' (P := cfg.P) (o := o) (e := 5) (nl := nlW) (w := oW) (l := V.getD []) (n := (V.getD []).length) rfl
  have hawk := awake_st
  generalize prnB (aActs l) R = P at *
  generalize prnB (aActs m) X = Q at *
  generalize V.getD [] = W at *
  generalize V.isSome = vs at *
  refine ⟨[], ⟨[], E9⟩, fun fr f0 f1 f2 f12 => ?_⟩
  cases hs1 : sameD (aActs l) (aActs m) with
  | false =>
    rw [hs1] at k5 hcmp
    simp at hcmp
    simp [f0, f1, f2, f12, k1, k2, k3, k4, k5, k7, k8, k9, k10, k11, c1, c2, c3, c4, hcmp, binV_beq uBool, binV_bne uBool, hawk]
  | true =>
    rw [hs1] at k5 hcmp
    cases hs2 : sameR R X with
    | false =>
      rw [hs2] at k6 hcmp
      simp at hcmp
      simp [f0, f1, f2, f12, k1, k2, k3, k4, k5, k6, k7, k8, k9, k10, k11, c1, c2, c3, c4, hcmp, binV_beq uBool, binV_bne uBool, hawk]
    | true =>
      rw [hs2] at k6 hcmp
      simp at hcmp
      simp [f0, f1, f2, f12, k1, k2, k3, k4, k5, k6, k7, k8, k9, k10, k11, c1, c2, c3, c4, hcmp, binV_beq uBool, binV_bne uBool, hawk]
end Go.Proofs.CfgA
end
section
namespace Go.Proofs.CfgA
open Go Go.Tm Go.Proofs
set_option maxRecDepth 100000
set_option linter.unusedSimpArgs false
theorem cmp7 {A B : List DoV} {R X : List Row} (okA : okAct A = true) (okB : okAct B = true) (hR8 : R.length ≤ 8) (hX8 : X.length ≤ 8) (hR : ∀ r ∈ R, r.2.length ≤ 256) (hX : ∀ r ∈ X, r.2.length ≤ 256) :
    decide (strOf (prnB A R) = strOf (prnB B X)) = (sameD A B && sameR R X) := by
  have hRm : ∀ x ∈ R.map (·.2), x.length ≤ 256 := fun x hx => by
    obtain ⟨r, hr', rfl⟩ := List.mem_map.1 hx
    exact hR r hr'
  have hXm : ∀ x ∈ X.map (·.2), x.length ≤ 256 := fun x hx => by
    obtain ⟨r, hr', rfl⟩ := List.mem_map.1 hx
    exact hX r hr'
  have h := prnP_inj okA okB (R := R.map (·.2)) (R' := X.map (·.2)) (by simpa using hR8) (by simpa using hX8) hRm hXm
  rw [Bool.eq_iff_iff, decide_eq_true_eq, strOf_inj, prnB_P, prnB_P, h, Bool.and_eq_true, sameD_iff, sameR_iff]
theorem apart_run {l m : List Int} {R0 : List Row} {nlL nlM nlI : Bool} {oL oM oI : Ow} {at_ : Int} {same : Bool} (hL : nlL = true → l = []) (hM : nlM = true → m = []) (hI : nlI = true → R0 = []) :
    ∃ st', callI cfg 7 [.sl nlL l.length (ints l) oL, .sl nlM m.length (ints m) oM, .sl nlI R0.length (rowsD R0) oI, .d (.int .i64 at_), .d (.bool same)] ⟨[], []⟩ = some (.d (.bool true), st') := by
  obtain ⟨R, oR, fx, hR8, hIR, hpre⟩ : ∃ (R : List Row) (oR : Ow) (fx : Fr), R.length ≤ 8 ∧ (nlI = true → R = []) ∧
      ∀ (K : Res), runI cfg 7 n7_8 ((0, .sl nlL l.length (ints l) (closeO oL)) :: (1, .sl nlM m.length (ints m) (closeO oM)) :: (2, .sl nlI R.length (rowsD R) oR) :: (3, .d (.int .i64 at_)) :: (4, .d (.bool same)) :: fx) ⟨[], []⟩ = K →
        runI cfg 7 n7_0 [(0, .sl nlL l.length (ints l) (closeO oL)), (1, .sl nlM m.length (ints m) (closeO oM)), (2, .sl nlI R0.length (rowsD R0) (closeO oI)), (3, .d (.int .i64 at_)), (4, .d (.bool same))] ⟨[], []⟩ = K := by
    by_cases h8 : 8 < R0.length
    · have h8' : (8 : Int) < R0.length := by omega
      have hsl := sliceV_hi (n := 1) (m := R0.length) (nl := nlI) (cs := rowsD R0) (o := closeO oI) (k := .i64) (j := 8) (e := 31) (by simp) (by omega) (by omega)
      have e1 : (rowsD R0).take 8 = rowsD (R0.take 8) := by simp [rowsD, List.map_take]
      have e2 : (R0.take 8).length = 8 := by simp; omega
      refine ⟨R0.take 8, cutO (closeO oI) R0.length 0 8 none, [], by omega, fun h => by simp [hI h], fun K hK => ?_⟩
      rw [e2] at hK
      simp [e1] at hsl
      simp [-e7_8, h8', hsl, hK]
    · have h8' : ¬ (8 : Int) < R0.length := by omega
      refine ⟨R0, closeO oI, [(28, .d (.bool false))], by omega, hI, fun K hK => ?_⟩
      simp [-e7_8, h8', hK]
  obtain ⟨q1, q2⟩ := loop7 R nlI oR hIR (by omega) (.sl nlL l.length (ints l) (closeO oL)) (.sl nlM m.length (ints m) (closeO oM)) (.d (.int .i64 at_)) (.d (.bool same)) R [] 0 rfl rfl
  by_cases hall : ∀ r ∈ R, r.2.length ≤ 256
  · obtain ⟨fr, q⟩ := q1 hall
    have hRR : sameR R R = true := (sameR_iff _ _).2 rfl
    have hsd : ∀ A, sameD A A = true := fun A => (sameD_iff _ _).2 rfl
    have okA := aActs_ok l
    have okB := aActs_ok m
    obtain ⟨frA, stA, tA⟩ := tail7 (l := l) (m := m) (R := R) (X := R) (oL := closeO oL) (oM := closeO oM) (oR := oR) (oX := oR) (E := []) hL hM hIR hIR hR8 hR8 hall hall (cmp7 okA okB hR8 hR8 hall hall) hsd
    cases same with
    | true =>
      refine ⟨⟨[], []⟩, ?_⟩
      rw [c7]
      simp [-e7_0, hpre _ rfl, -e7_43, q, tA]
    | false =>
      by_cases hne : R = []
      · refine ⟨⟨[], []⟩, ?_⟩
        have hz : R.length = 0 := by rw [hne]; rfl
        have hz1 : rowsD R = [] := by rw [hne]; rfl
        rw [c7]
        simp only [hz, hz1] at q tA
        rw [show ((0 : Nat) : Int) = 0 from rfl] at q
        have hp := hpre _ rfl
        simp only [hz, hz1] at hp
        simp [-e7_0, hp, -e7_43, q]
        rw [tA _ rfl rfl rfl rfl]
        simp
      · have hnl : nlI = false := by cases nlI with | false => rfl | true => exact absurd (hIR rfl) hne
        subst hnl
        have hp : 0 < R.length := List.length_pos_iff.2 hne
        obtain ⟨k, hk⟩ := Int.eq_ofNat_of_zero_le (Int.emod_nonneg (at_ % 256) (by omega : (R.length : Int) ≠ 0))
        have hkl : k < R.length := by have := Int.emod_lt_of_pos (at_ % 256) (by omega : (0 : Int) < R.length); omega
        obtain ⟨nl', E', hn', t7⟩ := turn7 (R := R) (k := k) (at_ := at_) (x0 := .sl nlL l.length (ints l) (closeO oL)) (x1 := .sl nlM m.length (ints m) (closeO oM)) (y := .sl false R.length (rowsD R) oR) (z := .d (.bool true)) (o2 := oR) (d := R[k]) hk (List.getElem?_eq_getElem hkl) hR8 (hall _ (List.getElem_mem hkl)) rfl rfl
        rw [rowD_eq hn'] at t7
        have hset : (rowsD R).set k (rowD (nl', R[k].2.take 255 ++ [ub (at_ / 256)])) = rowsD (R.set k (nl', R[k].2.take 255 ++ [ub (at_ / 256)])) := by simp [rowsD, List.map_set]
        rw [hset] at t7
        have hX8 : (R.set k (nl', R[k].2.take 255 ++ [ub (at_ / 256)])).length = R.length := by simp
        have hXr : ∀ r ∈ R.set k (nl', R[k].2.take 255 ++ [ub (at_ / 256)]), r.2.length ≤ 256 := fun r hr => by
          rcases List.mem_or_eq_of_mem_set hr with h | h
          · exact hall r h
          · subst h; simp; omega
        generalize R.set k (nl', R[k].2.take 255 ++ [ub (at_ / 256)]) = X at *
        obtain ⟨frB, stB, tB⟩ := tail7 (l := l) (m := m) (R := R) (X := X) (nlR := false) (nlX := false) (oL := closeO oL) (oM := closeO oM) (oR := oR) (oX := .ro) (E := E') hL hM (fun h => by simp at h) (fun h => by simp at h) hR8 (by omega) hall hXr (cmp7 okA okB hR8 (by omega) hall hXr) hsd
        rw [hX8] at tB
        have hp' : (0 : Int) < R.length := by omega
        refine ⟨⟨[], []⟩, ?_⟩
        rw [c7]
        simp [-e7_0, hpre _ rfl, -e7_43, -e7_37, q, hp', hp, hne, t7, tB]
  · have q := q2 hall
    refine ⟨⟨[], []⟩, ?_⟩
    rw [c7]
    simp [-e7_0, hpre _ rfl, q]
end Go.Proofs.CfgA
end
section
set_option linter.unusedVariables false
set_option linter.unusedSimpArgs false
namespace Go.Proofs.CfgA
open Go Go.Tm Go.Proofs
/-! ### arguments that came in -/
theorem im_top {w : World} {a : Addr} (h : (w.cell? a).isSome = true) : Im (GJ (fun _ => True) w) a := .inl ⟨cell_lt h, trivial⟩
theorem ints_vr {w : World} {a : Addr} {len cap : Nat} {zs : List Int} (hl : len ≤ cap) (hz : zs.length = cap) (hc : ∀ i, i < zs.length → w.cell? (a.add i) = some (.int .i64 (zs.getD i 0))) :
    VR (GJ (fun _ => True) w) [] w (.sl false len (ints (zs.take len)) .ro) (.slice (some a) len cap) := by
  unfold VR
  refine .inr ⟨rfl, a, cap, rfl, hl, DRL_mk fun i x hx => ?_, by unfold OwR; trivial⟩
  have hi := (List.getElem?_eq_some_iff.1 hx).1
  simp only [ints_length, List.length_take] at hi
  have hi2 : i < zs.length := by omega
  rw [ints_get, List.getElem?_take, if_pos (by omega), List.getElem?_eq_getElem hi2] at hx
  simp at hx
  subst hx
  rw [Nat.zero_add]
  have h := hc i hi2
  refine ⟨im_top (by rw [h]; rfl), _, h, ?_⟩
  unfold DR
  exact ⟨by simp [List.getD_eq_getElem?_getD, List.getElem?_eq_getElem hi2], rfl⟩
theorem wf8 {n : Int} (h : (Lit.int .u8 n).wf = true) : 0 ≤ n ∧ n < 256 := by
  simp only [Lit.wf, Bool.and_eq_true, decide_eq_true_eq] at h
  have e1 : IntKind.u8.min = 0 := by decide
  have e2 : IntKind.u8.max = 255 := by decide
  omega
theorem bytes_dr {w : World} {A : Option Addr} {L C : Nat} {z : List Int} (h1 : L ≤ C) (h2 : z.length = C) (h3 : ∀ n ∈ z, (Lit.int .u8 n).wf = true) (h4 : A = none → C = 0) (h5 : ∀ a', A = some a' → ∀ c, c < C → w.cell? (a'.add c) = some (.int .u8 (z.getD c 0))) :
    DR (Im (GJ (fun _ => True) w)) w (rowD (A.isNone, Lib.bytesOf (z.take L))) (.slice A L C) := by
  have hbl : (Lib.bytesOf (z.take L)).length = L := by simp [Lib.bytesOf]; omega
  cases A with
  | none =>
    have hC := h4 rfl
    subst hC
    have hL : L = 0 := by omega
    subst hL
    have hz : z = [] := List.length_eq_zero_iff.1 h2
    subst hz
    show DR _ _ (.slc true 0 []) _
    unfold DR
    exact .inl ⟨rfl, rfl, rfl, rfl⟩
  | some a =>
    show DR _ _ (.slc false (Lib.bytesOf (z.take L)).length (u8s (Lib.bytesOf (z.take L)))) _
    unfold DR
    refine .inr ⟨rfl, a, C, by rw [hbl], by omega, DRL_mk fun i x hx => ?_⟩
    have hi := (List.getElem?_eq_some_iff.1 hx).1
    rw [u8s_length, hbl] at hi
    have hi2 : i < (Lib.bytesOf (z.take L)).length := by omega
    rw [u8s_get, List.getElem?_eq_getElem hi2] at hx
    simp only [Option.map_some, Option.some.injEq] at hx
    subst hx
    rw [Nat.zero_add]
    have h := h5 a rfl i (by omega)
    have hb := bytes_at (zs := z) (l := Lib.bytesOf (z.take L)) (fun x hx => wf8 (h3 x hx)) (by rw [hbl]) hi2
    refine ⟨im_top (by rw [h]; rfl), _, h, ?_⟩
    rw [hb]
    unfold DR
    exact ⟨rfl, rfl⟩
theorem rows_vr {w : World} {a : Addr} {len cap : Nat} {A : Nat → Option Addr} {L C : Nat → Nat} {Z : Nat → List Int} (hl : len ≤ cap)
    (h : ∀ r, r < cap → w.cell? (a.add r) = some (.slice (A r) (L r) (C r)) ∧ L r ≤ C r ∧ (Z r).length = C r ∧ (∀ n ∈ Z r, (Lit.int .u8 n).wf = true) ∧ (A r = none → C r = 0) ∧ ∀ a', A r = some a' → ∀ c, c < C r → w.cell? (a'.add c) = some (.int .u8 ((Z r).getD c 0))) :
    ∃ R : List Row, R.length = len ∧ VR (GJ (fun _ => True) w) [] w (.sl false len (rowsD R) .ro) (.slice (some a) len cap) := by
  refine ⟨(List.range len).map fun r => ((A r).isNone, Lib.bytesOf ((Z r).take (L r))), by simp, ?_⟩
  unfold VR
  refine .inr ⟨rfl, a, cap, rfl, hl, DRL_mk fun i x hx => ?_, by unfold OwR; trivial⟩
  have hi := (List.getElem?_eq_some_iff.1 hx).1
  simp only [rowsD_length, List.length_map, List.length_range] at hi
  rw [rowsD_get, List.getElem?_map, List.getElem?_range hi] at hx
  simp only [Option.map_some, Option.some.injEq] at hx
  subst hx
  rw [Nat.zero_add]
  obtain ⟨h1, h2, h3, h4, h5, h6⟩ := h i (by omega)
  exact ⟨im_top (by rw [h1]; rfl), _, h1, bytes_dr h2 h3 h4 h5 h6⟩
end Go.Proofs.CfgA
end
