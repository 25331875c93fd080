/- What each function of the program computes (a summary a function). No conditions. -/
import Derived.Test.YtgegmkkbplhnhaaCodeD
import Derived.Test.YtgegmkkbplhnhaaCodeA
section
namespace Go.Proofs.CfgA
open Go Go.Tm Go.Proofs
set_option maxRecDepth 100000
set_option linter.unusedSimpArgs false
theorem w64 {n : Int} (h1 : -9223372036854775808 ≤ n) (h2 : n ≤ 9223372036854775807) : IntKind.i64.wrap n = n := IntWalk.i64_in _ ⟨h1, h2⟩
theorem clone_run {l : List UInt8} {nl : Bool} {n : Nat} {o : Ow} {st : St} (hn : n = l.length) (hl : nl = true → l = []) (hr : l.length ≤ roomB) :
    callI cfg 79 [.sl nl n (u8s l) o] st = some (.sl nl n (u8s l) (if l = [] then .ex else .tok st.E.length), ⟨st.H, if l = [] then st.E else st.E ++ [n]⟩) := by
  subst hn
  cases nl
  · by_cases h : l = []
    · subst h
      simp [c79, appV_none (n := 1) (ys := []), tailOf]
    · have h1 : 0 < l.length := List.length_pos_iff.2 h
      simp [c79, appV_lit (n := 1) (k := l.length) (ys := u8s l), tailOf, h, h1, hr]
  · obtain rfl := hl rfl
    simp [c79]
theorem clip_run {l : List UInt8} {nl : Bool} {n : Nat} {o : Ow} {st : St} (hn : n = l.length) :
    callI cfg 78 [.sl nl n (u8s l) o] st = some (.sl nl n (u8s l) .ex, st) := by
  subst hn
  simp [c78, sliceV_clip]

/-- The six octets of a number, the greatest first. -/
def six (n : Nat) : List UInt8 := [oct n 5, oct n 4, oct n 3, oct n 2, oct n 1, oct n 0]
def clampN (n : Int) : Nat := (min (max n 0) 1099511627776).toNat
def sixI (n : Int) : List UInt8 := six (clampN n)
@[simp] theorem sixI_length (n : Int) : (sixI n).length = 6 := rfl
theorem bits64 : IntKind.i64.bits = 64 := rfl
theorem ub_oct (n : Int) (k : Nat) (p : Int) (hp : p = ((256 ^ k : Nat) : Int)) : ub ((min (max n 0) 1099511627776).fdiv p) = oct (clampN n) k := by
  obtain ⟨m, hm⟩ : ∃ m : Nat, min (max n 0) 1099511627776 = (m : Int) := ⟨(min (max n 0) 1099511627776).toNat, by omega⟩
  have hc : clampN n = m := by simp only [clampN, hm, Int.toNat_natCast]
  obtain ⟨q, hq⟩ : ∃ q : Nat, m / 256 ^ k = q := ⟨_, rfl⟩
  have hf : ((m : Int)).fdiv p = (q : Int) := by rw [hp, Int.fdiv_eq_ediv_of_nonneg _ (Int.natCast_nonneg _), ← hq]; norm_cast
  rw [hm, hc, hf]
  simp only [ub, oct, hq]
  clear hm hc hf hp hq
  apply UInt8.toNat_inj.1
  simp only [UInt8.toNat_ofNat']
  omega
theorem num_run {l : List UInt8} {nl : Bool} {m : Nat} {o : Ow} {n : Int} {st : St} (hn : m = l.length) (hl : nl = true → l = []) (hr : l.length + 6 ≤ roomB) :
    callI cfg 43 [.sl nl m (u8s l) o, .d (.int .i64 n)] st = some (.sl false (m + 6) (u8s (l ++ sixI n)) (.tok st.E.length), ⟨st.H, st.E ++ [m + 6]⟩) := by
  simp (disch := first | assumption | omega) [c43, clone_run, clip_run, hn]
  generalize (if l = [] then [] else [l.length]) = E0
  simp (disch := first | assumption | omega | (simp; omega) | simp) [l43_10, gcT_stay, w64, binV_shr, bits64, putAt_one, appV_exS, appV_tokS, u8s_wrap, u8s_app]
  have h0 : ub (min (max n 0) 1099511627776) = oct (clampN n) 0 := by
    have := ub_oct n 0 1 rfl
    rwa [Int.fdiv_one] at this
  rw [ub_oct n 5 1099511627776 rfl, ub_oct n 4 4294967296 rfl, ub_oct n 3 16777216 rfl, ub_oct n 2 65536 rfl, ub_oct n 1 256 rfl, h0]
  rfl
theorem num_nil {n : Int} {st : St} : callI cfg 43 [.sl true 0 [] .ex, .d (.int .i64 n)] st = some (.sl false 6 (u8s (sixI n)) (.tok st.E.length), ⟨st.H, st.E ++ [6]⟩) := by
  have := num_run (l := []) (nl := true) (m := 0) (o := .ex) (n := n) (st := st) rfl (by simp) (by decide)
  simpa using this
theorem bytes_run {l x : List UInt8} {nl nl2 : Bool} {m k : Nat} {o o2 : Ow} {st : St} (hn : m = l.length) (hl : nl = true → l = []) (hk : k = x.length) (hr : l.length + 6 + x.length ≤ roomB) :
    callI cfg 44 [.sl nl m (u8s l) o, .sl nl2 k (u8s x) o2] st = some (.sl false (m + 6 + k) (u8s (l ++ sixI k ++ x)) (.tok st.E.length), ⟨st.H, st.E ++ [m + 6 + k]⟩) := by
  subst hn hk
  by_cases hx : x = []
  · subst hx
    simp (disch := first | assumption | omega | (simp; omega) | simp) [c44, num_run, appV_noneS]
  · have h1 : 0 < x.length := List.length_pos_iff.2 hx
    simp (disch := first | assumption | omega | (simp; omega) | simp) [c44, num_run, appV_tokS, u8s_app]
theorem bytes_nil {x : List UInt8} {nl2 : Bool} {k : Nat} {o2 : Ow} {st : St} (hk : k = x.length) (hr : 6 + x.length ≤ roomB) :
    callI cfg 44 [.sl true 0 [] .ex, .sl nl2 k (u8s x) o2] st = some (.sl false (6 + k) (u8s (sixI k ++ x)) (.tok st.E.length), ⟨st.H, st.E ++ [6 + k]⟩) := by
  have := bytes_run (l := []) (x := x) (nl := true) (nl2 := nl2) (m := 0) (k := k) (o := .ex) (o2 := o2) (st := st) rfl (by simp) hk (by simpa using hr)
  simpa using this
end Go.Proofs.CfgA
end
section
namespace Go.Proofs.CfgA
open Go Go.Tm Go.Proofs
set_option maxRecDepth 100000
set_option linter.unusedSimpArgs false
def doB (d : DoV) : List UInt8 := sixI d.kind ++ sixI d.n ++ (sixI d.text.size ++ d.text.data.toList)
def dosB (l : List DoV) : List UInt8 := l.flatMap doB
def actB (l : List DoV) : List UInt8 := sixI l.length ++ dosB l
theorem conv_sb {o : Op} {s : ByteArray} {P : Program} {e : TypeId} : convV P o false (some .string) (some (.slice e)) none (some (.int .u8)) (.d (.string s)) = some (.sl false s.size (u8s s.data.toList) .ro) := rfl
theorem doB_length (d : DoV) : (doB d).length = 18 + d.text.size := by simp [doB]; omega
theorem dosB_cons (d : DoV) (l : List DoV) : dosB (d :: l) = doB d ++ dosB l := by simp [dosB]

theorem loop45 (l : List DoV) (nl2 : Bool) (o2 : Ow) (hnl : nl2 = true → l = []) (hm : l.length ≤ 1000000): ∀ (suf pre : List DoV) (a R : List UInt8) (m k : Nat) (i : Int) (o : Ow) (E : List Nat), l = pre ++ suf → m = a.length → R = a ++ dosB suf → k = R.length → i = pre.length → R.length ≤ roomB →
    ∃ o' E' fr, runI cfg 45 n45_8 [(3, .sl false m (u8s a) o), (9, .sl nl2 l.length (dosD l) o2), (10, .d (.int .i64 l.length)), (11, .d (.int .i64 i))] ⟨[], E⟩ =
      some (.exit 0, (3, .sl false k (u8s R) o') :: fr, ⟨[], E'⟩)
  | [], pre, a, R, m, k, i, o, E, hl, h1, h2, h3, h4, hr => by
    subst h1 h2 h3 h4
    simp [l45_8, dosB, hl]
  | d :: suf, pre, a, R, m, k, i, o, E, hl, h1, h2, h3, h4, hr => by
    subst h1 h2 h3 h4
    have hi : pre.length < l.length := by rw [hl]; simp
    have hg : l[pre.length] = d := by simp [hl]
    have hnl' : nl2 = false := by cases nl2 with | false => rfl | true => exact absurd (hnl rfl) (by rw [hl]; simp)
    subst hnl'
    have hp := dosD_piece l pre.length hi
    rw [hg] at hp
    rw [dosB_cons] at hr ⊢
    have hd := doB_length d
    simp only [List.length_append, hd] at hr
    rw [l45_8]
    simp (disch := first | assumption | omega | (simp; omega) | simp) only [hi, ixV_sl, hp, DoV.t, putAt, num_run, bytes_run, conv_sb, w64]
    simp (disch := first | assumption | omega | (simp; omega) | simp) [hi, ixV_sl, hp, DoV.t, putAt, num_run, bytes_run, conv_sb, w64]
    rw [gcT_cut (by simp) (by simp) (by simp)]
    refine loop45 l false o2 hnl hm suf (pre ++ [d]) _ _ _ _ _ _ _ (by simp [hl]) ?_ ?_ ?_ (by simp) ?_
    · simp; omega
    · simp [doB]
    · simp
    · simp [hd]; omega
theorem actbytes_run {l : List DoV} {nl : Bool} {n : Nat} {o : Ow} {st : St} (hn : n = l.length) (hnl : nl = true → l = []) (hm : l.length ≤ 1000000) (hr : (actB l).length ≤ roomB) :
    ∃ o' E', callI cfg 45 [.sl nl n (dosD l) o] st = some (.sl false (actB l).length (u8s (actB l)) o', ⟨st.H, E'⟩) := by
  subst hn
  simp only [actB, List.length_append, sixI_length] at hr
  obtain ⟨o1, E1, fr, h⟩ := loop45 l nl (closeO o) hnl hm l [] (sixI l.length) (actB l) 6 (actB l).length 0 (.tok 0) [6] rfl rfl rfl rfl rfl (by simp [actB]; omega)
  obtain ⟨o2, E2, h2⟩ := ret_sl (s := ⟨[], E1⟩) (st := st) (nl := false) (n := (actB l).length) (cs := u8s (actB l)) (o := o1)
  refine ⟨o2, E2, ?_⟩
  simp [c45, num_nil, h, h2]
theorem equal_run {x y : List UInt8} {nl nl2 : Bool} {m k : Nat} {o o2 : Ow} {st : St} (hm : m = x.length) (hk : k = y.length) :
    callI cfg 51 [.sl nl m (u8s x) o, .sl nl2 k (u8s y) o2] st = some (.d (.bool (decide (x = y))), st) := by
  subst hm hk
  simp [c51, convV]
end Go.Proofs.CfgA
end
section
namespace Go.Proofs.CfgA
open Go Go.Tm Go.Proofs
set_option maxRecDepth 100000
set_option linter.unusedSimpArgs false
def rowB (x : List UInt8) : List UInt8 := sixI x.length ++ x
def rowsB (l : List Row) : List UInt8 := l.flatMap fun r => rowB r.2
def prnB (l : List DoV) (ins : List Row) : List UInt8 := rowB (actB l) ++ sixI ins.length ++ rowsB ins
theorem rowsB_cons (r : Row) (l : List Row) : rowsB (r :: l) = rowB r.2 ++ rowsB l := by simp [rowsB]
theorem rowB_length (x : List UInt8) : (rowB x).length = 6 + x.length := by simp [rowB]

theorem loop16 (l : List Row) (nl2 : Bool) (o2 : Ow) (hnl : nl2 = true → l = []) (hm : l.length ≤ 1000000) (H : List Box) : ∀ (suf pre : List Row) (a R : List UInt8) (m k : Nat) (i : Int) (o : Ow) (E : List Nat), l = pre ++ suf → m = a.length → R = a ++ rowsB suf → k = R.length → i = pre.length → R.length ≤ roomB →
    ∃ o' E' fr, runI cfg 16 n16_8 [(5, .sl false m (u8s a) o), (14, .sl nl2 l.length (rowsD l) o2), (15, .d (.int .i64 l.length)), (16, .d (.int .i64 i))] ⟨H, E⟩ =
      some (.exit 0, (5, .sl false k (u8s R) o') :: fr, ⟨H, E'⟩)
  | [], pre, a, R, m, k, i, o, E, hl, h1, h2, h3, h4, hr => by
    subst h1 h2 h3 h4
    simp [l16_8, rowsB, hl]
  | d :: suf, pre, a, R, m, k, i, o, E, hl, h1, h2, h3, h4, hr => by
    subst h1 h2 h3 h4
    have hi : pre.length < l.length := by rw [hl]; simp
    have hg : l[pre.length]? = some d := by simp [hl]
    have hg2 : l[pre.length] = d := by simp [hl]
    have hnl' : nl2 = false := by cases nl2 with | false => rfl | true => exact absurd (hnl rfl) (by rw [hl]; simp)
    subst hnl'
    rw [rowsB_cons] at hr ⊢
    have hd := rowB_length d.2
    simp only [List.length_append, hd] at hr
    rw [l16_8]
    simp (disch := first | assumption | omega | (simp; omega) | simp) [hi, ixV_sl, hg, hg2, bytes_run, w64, gcT_stay]
    refine loop16 l false o2 hnl hm H suf (pre ++ [d]) _ _ _ _ ((pre.length : Int) + 1) _ _ (by simp [hl]) ?_ ?_ ?_ (by simp) ?_
    · simp; omega
    · simp [rowB]
    · simp
    · simp [hd]; omega
theorem prnB_length (l : List DoV) (ins : List Row) : (prnB l ins).length = 12 + (actB l).length + (rowsB ins).length := by simp [prnB, rowB]; omega
theorem print_run {l : List DoV} {ins : List Row} {nl nl2 : Bool} {n n2 : Nat} {o o2 : Ow} {st : St} (hn : n = l.length) (hnl : nl = true → l = []) (hm : l.length ≤ 1000000) (hn2 : n2 = ins.length) (hnl2 : nl2 = true → ins = []) (hm2 : ins.length ≤ 1000000) (hr : (prnB l ins).length ≤ roomB) :
    ∃ o' E', callI cfg 16 [.sl nl n (dosD l) o, .sl nl2 n2 (rowsD ins) o2] st = some (.sl false (prnB l ins).length (u8s (prnB l ins)) o', ⟨st.H, E'⟩) := by
  subst hn hn2
  have hr' := hr
  rw [prnB_length] at hr'
  obtain ⟨oa, Ea, ha⟩ := actbytes_run (l := l) (nl := nl) (n := l.length) (o := closeO o) (st := ⟨[], []⟩) rfl hnl hm (by omega)
  obtain ⟨o1, E1, fr, h⟩ := loop16 ins nl2 (closeO o2) hnl2 hm2 [] ins [] (rowB (actB l) ++ sixI ins.length) (prnB l ins) (6 + (actB l).length + 6) (prnB l ins).length 0 (.tok (Ea.length + 1)) (Ea ++ [6 + (actB l).length, 6 + (actB l).length + 6]) rfl (by simp [rowB]; omega) rfl rfl rfl hr
  obtain ⟨o3, E2, h2⟩ := ret_sl (s := ⟨[], E1⟩) (st := st) (nl := false) (n := (prnB l ins).length) (cs := u8s (prnB l ins)) (o := o1)
  refine ⟨o3, E2, ?_⟩
  have hb := bytes_nil (x := actB l) (nl2 := false) (k := (actB l).length) (o2 := oa) (st := ⟨[], Ea⟩) rfl (by omega)
  have hc := num_run (l := rowB (actB l)) (nl := false) (m := 6 + (actB l).length) (o := .tok Ea.length) (n := ins.length) (st := ⟨[], Ea ++ [6 + (actB l).length]⟩) (by simp [rowB]) (by simp) (by simp [rowB]; omega)
  simp only [rowB] at hb hc h
  simp at hb hc h
  simp [c16, ha, hb, hc, h, h2]

theorem wu64 {n : Int} (h1 : 0 ≤ n) (h2 : n ≤ 18446744073709551615) : IntKind.u64.wrap n = n := IntWalk.u64_in _ ⟨h1, h2⟩
theorem rnum_run {l : List UInt8} {nl : Bool} {m : Nat} {o : Ow} {n : Int} {st : St} (hn : m = l.length) (hr : l.length + 6 ≤ roomB) :
    callI cfg 53 [.sl nl m (u8s l) o, .d (.int .i64 n)] st = some (.sl false (m + 6) (u8s (l ++ sixI n)) (.tok st.E.length), ⟨st.H, st.E ++ [m + 6]⟩) := by
  subst hn
  have h0 : ub (min (max n 0) 1099511627776) = oct (clampN n) 0 := by
    have := ub_oct n 0 1 rfl
    rwa [Int.fdiv_one] at this
  have fin : l ++ [ub ((min (max n 0) 1099511627776).fdiv 1099511627776), ub ((min (max n 0) 1099511627776).fdiv 4294967296), ub ((min (max n 0) 1099511627776).fdiv 16777216), ub ((min (max n 0) 1099511627776).fdiv 65536), ub ((min (max n 0) 1099511627776).fdiv 256), ub (min (max n 0) 1099511627776)] = l ++ sixI n := by
    rw [ub_oct n 5 1099511627776 rfl, ub_oct n 4 4294967296 rfl, ub_oct n 3 16777216 rfl, ub_oct n 2 65536 rfl, ub_oct n 1 256 rfl, h0]
    rfl
  by_cases h : l = []
  · subst h
    simp at fin
    simp (disch := first | assumption | omega | (simp; omega) | simp | decide) [c53, appV_noneS, l53_10, gcT_stay, w64, wu64, binV_shr, bits64, putAt_one, appV_litS, appV_tokS, u8s_wrap, u8s_app, fin]
  · have h1 : 0 < l.length := List.length_pos_iff.2 h
    simp (disch := first | assumption | omega | (simp; omega) | simp | decide) [c53, appV_litS, h, h1, l53_10, gcT_stay, w64, wu64, binV_shr, bits64, putAt_one, appV_tokS, u8s_wrap, u8s_app, fin]
end Go.Proofs.CfgA
end
section
namespace Go.Proofs.CfgA
open Go Go.Tm Go.Proofs
set_option maxRecDepth 100000
set_option linter.unusedSimpArgs false
/-- A reader. -/
structure RdV where
  nl : Bool
  l : List UInt8
  o : Ow
  bad : Bool
abbrev RdV.cs (r : RdV) : List T := [.sl r.nl r.l.length (u8s r.l) r.o, .d (.bool r.bad)]
def RdV.ok (r : RdV) : Prop := r.nl = true → r.l = []
def beN (l : List UInt8) : Nat := l.foldl (fun n c => n * 256 + c.toNat) 0
def failR : RdV := ⟨true, [], .ex, true⟩

theorem or_add (a c : Nat) (h : a % 256 = 0) (hc : c < 256) : a ||| c = a + c := by
  obtain ⟨q, rfl⟩ : ∃ q, a = q * 256 := ⟨a / 256, by omega⟩
  have := Nat.shiftLeft_add_eq_or_of_lt (b := c) (i := 8) (by omega) q
  rw [Nat.shiftLeft_eq] at this
  exact this.symm
theorem binV_orS {P : Program} {o : Op} {t : TypeId} {a c : Int} (h0 : 0 ≤ a) (h1 : a % 256 = 0) (h2 : a < 281474976710656) (h3 : 0 ≤ c) (h4 : c < 256) : binV P o .or t (.int .i64) (.d (.int .i64 a)) (.d (.int .i64 c)) = some (.d (.int .i64 (a + c))) := by
  obtain ⟨x, rfl⟩ := Int.eq_ofNat_of_zero_le h0
  obtain ⟨y, rfl⟩ := Int.eq_ofNat_of_zero_le h3
  have hx : (BitVec.ofInt 64 (x : Int)).toNat = x := by rw [BitVec.toNat_ofInt]; omega
  have hy : (BitVec.ofInt 64 (y : Int)).toNat = y := by rw [BitVec.toNat_ofInt]; omega
  rw [binV_or, bits64, BitVec.toNat_or, hx, hy, or_add x y (by omega) (by omega), w64 (by omega) (by omega), Int.natCast_add]

def rdNum (r : RdV) (top : Int) : Int × RdV :=
  if r.bad = true ∨ r.l.length < 6 then (0, failR)
  else if top < (beN (r.l.take 6) : Int) then (0, failR)
  else (beN (r.l.take 6), ⟨r.nl, r.l.drop 6, cutO r.o r.l.length 6 r.l.length none, false⟩)

theorem fail_run {r : RdV} {H : List Box} {E : List Nat} : callI cfg 81 [.ptr 0 0] ⟨.cells r.cs :: H, E⟩ = some (.tup [], ⟨.cells failR.cs :: H, E⟩) := by
  simp [c81, putAt, failR]

theorem rnum49 {r : RdV} {top : Int} {H : List Box} {E : List Nat} (hr : r.ok) : callI cfg 49 [.ptr 0 0, .d (.int .i64 top)] ⟨.cells r.cs :: H, E⟩ = some (.d (.int .i64 (rdNum r top).1), ⟨.cells (rdNum r top).2.cs :: H, E⟩) := by
  obtain ⟨nl, l, o, bad⟩ := r
  cases bad with
  | true =>
    have := fail_run (r := ⟨nl, l, o, true⟩) (H := H) (E := E)
    simp [c49, this, rdNum]
  | false =>
    by_cases hl : l.length < 6
    · have := fail_run (r := ⟨nl, l, o, false⟩) (H := H) (E := E)
      have hl' : ((l.length : Int) < 6) := by omega
      simp [c49, this, rdNum, hl, hl']
    · have hl' : ¬ ((l.length : Int) < 6) := by omega
      obtain ⟨b0, b1, b2, b3, b4, b5, rest, rfl⟩ : ∃ b0 b1 b2 b3 b4 b5 rest, l = b0 :: b1 :: b2 :: b3 :: b4 :: b5 :: rest := by
        match l, hl with
        | b0 :: b1 :: b2 :: b3 :: b4 :: b5 :: rest, _ => exact ⟨_, _, _, _, _, _, _, rfl⟩
        | [], h | [_], h | [_, _], h | [_, _, _], h | [_, _, _, _], h | [_, _, _, _, _], h => exact absurd (by simp) h
      have hnl : nl = false := by cases nl with | false => rfl | true => exact absurd (hr rfl) (by simp)
      subst hnl
      have hl2 : ¬ ((rest.length : Int) + 1 + 1 + 1 + 1 + 1 + 1 < 6) := by omega
      have hl3 : ¬ (rest.length + 1 + 1 + 1 + 1 + 1 + 1 < 6) := by omega
      have hlt := fail_run (r := ⟨false, b0 :: b1 :: b2 :: b3 :: b4 :: b5 :: rest, o, false⟩) (H := H) (E := E)
      have k0 := b0.toNat_lt; have k1 := b1.toNat_lt; have k2 := b2.toNat_lt; have k3 := b3.toNat_lt; have k4 := b4.toNat_lt; have k5 := b5.toNat_lt
      simp (disch := first | assumption | omega | (simp; omega) | simp) [c49, hl2, sliceV_hi, u8s_take, ixV_sl, l49_18, binV_shl, bits64, w64, binV_orS, gcT_stay]
      simp (disch := first | assumption | omega | (simp; omega) | simp) [hlt, hl3, sliceV_lo, u8s_drop, putAt, rdNum, beN]
      split <;> simp
end Go.Proofs.CfgA
end
section
namespace Go.Proofs.CfgA
open Go Go.Tm Go.Proofs
set_option maxRecDepth 100000
set_option linter.unusedSimpArgs false
theorem rdNum_ok {r : RdV} {top : Int} (h : r.ok) : (rdNum r top).2.ok ∧ 0 ≤ (rdNum r top).1 ∧ (rdNum r top).2.l.length ≤ r.l.length := by
  unfold rdNum
  split
  · exact ⟨fun _ => rfl, Int.le_refl _, Nat.zero_le _⟩
  · split
    · exact ⟨fun _ => rfl, Int.le_refl _, Nat.zero_le _⟩
    · exact ⟨fun hn => by simp [h hn], Int.natCast_nonneg _, by simp⟩
def rdB (r : RdV) (top : Int) : Bool × List UInt8 × RdV :=
  let p := rdNum r top
  if p.2.l.length < p.1.toNat then (true, [], failR) else (p.2.nl, p.2.l.take p.1.toNat, ⟨p.2.nl, p.2.l.drop p.1.toNat, cutO p.2.o p.2.l.length p.1.toNat p.2.l.length none, p.2.bad⟩)
theorem rdB_ok {r : RdV} {top : Int} (h : r.ok) : (rdB r top).2.2.ok ∧ ((rdB r top).1 = true → (rdB r top).2.1 = []) ∧ (rdB r top).2.2.l.length ≤ r.l.length ∧ (rdB r top).2.1.length ≤ r.l.length := by
  obtain ⟨h1, h2, h3⟩ := rdNum_ok (top := top) h
  unfold rdB
  generalize rdNum r top = p at *
  simp only
  split
  · exact ⟨fun _ => rfl, fun _ => rfl, Nat.zero_le _, Nat.zero_le _⟩
  · refine ⟨fun hn => by simp [h1 hn], fun hn => by simp [h1 hn], ?_, ?_⟩
    · simp; omega
    · simp; omega
def newE (E : List Nat) (l : List UInt8) : List Nat := if l = [] then E else E ++ [l.length]
def newO (E : List Nat) (l : List UInt8) : Ow := if l = [] then .ex else .tok E.length
theorem rbytes48 {r : RdV} {top : Int} {H : List Box} {E : List Nat} (hr : r.ok) (hb : r.l.length ≤ roomB) :
    callI cfg 48 [.ptr 0 0, .d (.int .i64 top)] ⟨.cells r.cs :: H, E⟩ = some (.sl (rdB r top).1 (rdB r top).2.1.length (u8s (rdB r top).2.1) (newO E (rdB r top).2.1), ⟨.cells (rdB r top).2.2.cs :: H, newE E (rdB r top).2.1⟩) := by
  obtain ⟨h1, h2, h3⟩ := rdNum_ok (top := top) hr
  have h0 := rnum49 (r := r) (top := top) (H := H) (E := E) hr
  unfold rdB
  generalize rdNum r top = p at *
  obtain ⟨n, nl, l, o, bad⟩ := p
  obtain ⟨m, rfl⟩ := Int.eq_ofNat_of_zero_le h2
  simp only at h1 h3 ⊢
  have hf := fail_run (r := ⟨nl, l, o, bad⟩) (H := H) (E := E)
  by_cases hc : l.length < m
  · have hc2 : (l.length : Int) < m := by omega
    simp [c48, h0, hf, hc, newO, newE]
  · have hc2 : ¬ (l.length : Int) < m := by omega
    have hmin : min m l.length = m := by omega
    have h1' : nl = true → l = [] := h1
    have hcl := clone_run (l := l.take m) (nl := nl) (n := m) (o := cutO o l.length 0 m none) (st := ⟨.cells [.sl nl l.length (u8s l) o, .d (.bool bad)] :: H, E⟩) (by simp; omega) (fun h => by simp [h1' h]) (by simp; omega)
    simp (disch := first | assumption | omega | (simp; omega) | simp) [c48, h0, hc, sliceV_hi, sliceV_lo, u8s_take, u8s_drop, hcl, putAt, newO, newE, hmin]

theorem end50 {r : RdV} {H : List Box} {E : List Nat} : callI cfg 50 [.ptr 0 0] ⟨.cells r.cs :: H, E⟩ = some (.d (.bool (!r.bad && r.l.isEmpty)), ⟨.cells r.cs :: H, E⟩) := by
  obtain ⟨nl, l, o, bad⟩ := r
  cases bad <;> simp [c50]
  cases l <;> simp
theorem read46 {l : List UInt8} {nl : Bool} {n : Nat} {o : Ow} {st : St} (hn : n = l.length) (hl : nl = true → l = []) (hr : l.length ≤ roomB) :
    callI cfg 46 [.sl nl n (u8s l) o] st = some (.ptr st.H.length 0, ⟨st.H ++ [.cells (RdV.cs ⟨nl, l, newO st.E l, false⟩)], newE st.E l⟩) := by
  subst hn
  simp (disch := first | assumption | omega | (simp; omega) | simp) [c46, clone_run, newO, newE, putAt]
end Go.Proofs.CfgA
end
section
namespace Go.Proofs.CfgA
open Go Go.Tm Go.Proofs
set_option maxRecDepth 100000
set_option linter.unusedSimpArgs false
def rrNum (r : RdV) (top : Int) : Int × RdV :=
  if r.bad = true ∨ r.l.length < 6 then (0, ⟨r.nl, r.l, r.o, true⟩)
  else if top < (beN (r.l.take 6) : Int) then (0, ⟨r.nl, r.l, r.o, true⟩)
  else (beN (r.l.take 6), ⟨r.nl, r.l.drop 6, cutO r.o r.l.length 6 r.l.length none, false⟩)
theorem rrNum_ok {r : RdV} {top : Int} (h : r.ok) : (rrNum r top).2.ok ∧ 0 ≤ (rrNum r top).1 ∧ (rrNum r top).2.l.length ≤ r.l.length := by
  unfold rrNum
  split
  · exact ⟨h, Int.le_refl _, Nat.le_refl _⟩
  · split
    · exact ⟨h, Int.le_refl _, Nat.le_refl _⟩
    · exact ⟨fun hn => by simp [h hn], Int.natCast_nonneg _, by simp⟩
theorem rrnum58 {r : RdV} {top : Int} {H : List Box} {E : List Nat} (hr : r.ok) : callI cfg 58 [.ptr 0 0, .d (.int .i64 top)] ⟨.cells r.cs :: H, E⟩ = some (.d (.int .i64 (rrNum r top).1), ⟨.cells (rrNum r top).2.cs :: H, E⟩) := by
  obtain ⟨nl, l, o, bad⟩ := r
  cases bad with
  | true =>
    simp [c58, rrNum, putAt]
  | false =>
    by_cases hl : l.length < 6
    · have hl' : ((l.length : Int) < 6) := by omega
      simp [c58, rrNum, hl, hl', putAt]
    · have hl' : ¬ ((l.length : Int) < 6) := by omega
      obtain ⟨b0, b1, b2, b3, b4, b5, rest, rfl⟩ : ∃ b0 b1 b2 b3 b4 b5 rest, l = b0 :: b1 :: b2 :: b3 :: b4 :: b5 :: rest := by
        match l, hl with
        | b0 :: b1 :: b2 :: b3 :: b4 :: b5 :: rest, _ => exact ⟨_, _, _, _, _, _, _, rfl⟩
        | [], h | [_], h | [_, _], h | [_, _, _], h | [_, _, _, _], h | [_, _, _, _, _], h => exact absurd (by simp) h
      have hnl : nl = false := by cases nl with | false => rfl | true => exact absurd (hr rfl) (by simp)
      subst hnl
      have hl2 : ¬ ((rest.length : Int) + 1 + 1 + 1 + 1 + 1 + 1 < 6) := by omega
      have hl3 : ¬ (rest.length + 1 + 1 + 1 + 1 + 1 + 1 < 6) := by omega
      have k0 := b0.toNat_lt; have k1 := b1.toNat_lt; have k2 := b2.toNat_lt; have k3 := b3.toNat_lt; have k4 := b4.toNat_lt; have k5 := b5.toNat_lt
      simp (maxSteps := 1000000) (disch := first | assumption | omega | (simp; omega) | simp) [c58, hl2, sliceV_hi, u8s_take, ixV_sl, l58_18, binV_shl, bits64, w64, binV_orS, gcT_stay]
      simp (disch := first | assumption | omega | (simp; omega) | simp) [hl3, sliceV_lo, u8s_drop, putAt, rrNum, beN]
      split <;> simp
def rrB (r : RdV) (top : Int) : Bool × List UInt8 × RdV :=
  let p := rrNum r top
  if p.2.bad = true ∨ p.2.l.length < p.1.toNat then (true, [], ⟨p.2.nl, p.2.l, p.2.o, true⟩) else (false, p.2.l.take p.1.toNat, ⟨p.2.nl, p.2.l.drop p.1.toNat, cutO p.2.o p.2.l.length p.1.toNat p.2.l.length none, p.2.bad⟩)
theorem rrB_ok {r : RdV} {top : Int} (h : r.ok) : (rrB r top).2.2.ok ∧ ((rrB r top).1 = true → (rrB r top).2.1 = []) ∧ (rrB r top).2.2.l.length ≤ r.l.length ∧ (rrB r top).2.1.length ≤ r.l.length := by
  obtain ⟨h1, h2, h3⟩ := rrNum_ok (top := top) h
  unfold rrB
  generalize rrNum r top = p at *
  simp only
  split
  · exact ⟨h1, fun _ => rfl, h3, Nat.zero_le _⟩
  · refine ⟨fun hn => by simp [h1 hn], fun hn => by simp at hn, ?_, ?_⟩
    · simp; omega
    · simp; omega
theorem rrbytes57 {r : RdV} {top : Int} {H : List Box} {E : List Nat} (hr : r.ok) (hb : r.l.length ≤ roomB) :
    ∃ o E', callI cfg 57 [.ptr 0 0, .d (.int .i64 top)] ⟨.cells r.cs :: H, E⟩ = some (.sl (rrB r top).1 (rrB r top).2.1.length (u8s (rrB r top).2.1) o, ⟨.cells (rrB r top).2.2.cs :: H, E'⟩) ∧ ∃ E2, E' = E ++ E2 := by
  obtain ⟨h1, h2, h3⟩ := rrNum_ok (top := top) hr
  have h0 := rrnum58 (r := r) (top := top) (H := H) (E := E) hr
  unfold rrB
  generalize rrNum r top = p at *
  obtain ⟨n, nl, l, o, bad⟩ := p
  obtain ⟨m, rfl⟩ := Int.eq_ofNat_of_zero_le h2
  simp only at h1 h3 ⊢
  have h1' : nl = true → l = [] := h1
  cases bad with
  | true => exact ⟨.ex, E, by simp [c57, h0, putAt], [], by simp⟩
  | false =>
    by_cases hc : l.length < m
    · have hc2 : (l.length : Int) < m := by omega
      exact ⟨.ex, E, by simp [c57, h0, hc, putAt], [], by simp⟩
    · have hc2 : ¬ (l.length : Int) < m := by omega
      have hmin : min m l.length = m := by omega
      by_cases hm : m = 0
      · subst hm
        refine ⟨.lit, E, ?_, [], by simp⟩
        simp (disch := first | assumption | omega | (simp; omega) | simp) [c57, h0, hc, sliceV_hi, sliceV_lo, u8s_take, u8s_drop, putAt, appV_noneS]
      · have hm' : 0 < m := by omega
        refine ⟨.tok E.length, E ++ [m], ?_, [m], by simp⟩
        simp (disch := first | assumption | omega | (simp; omega) | simp) [c57, h0, hc, sliceV_hi, sliceV_lo, u8s_take, u8s_drop, putAt, appV_litS, hmin]
theorem end59 {r : RdV} {H : List Box} {E : List Nat} : callI cfg 59 [.ptr 0 0] ⟨.cells r.cs :: H, E⟩ = some (.d (.bool (!r.bad && r.l.isEmpty)), ⟨.cells r.cs :: H, E⟩) := by
  obtain ⟨nl, l, o, bad⟩ := r
  cases bad <;> simp [c59]
  cases l <;> simp
end Go.Proofs.CfgA
end
section
namespace Go.Proofs.CfgA
open Go Go.Tm Go.Proofs
set_option maxRecDepth 100000
set_option linter.unusedSimpArgs false
theorem uStr : cfg.P.underlying 9 = some .string := by kernel_rfl
theorem uBool : cfg.P.underlying 4 = some .bool := by kernel_rfl
def okC (b : UInt8) : Bool := !(decide (b.toNat < 32) || decide (126 < b.toNat) || decide (b.toNat = 34))
def fitsL (l : List UInt8) : Bool := l.all okC && decide (l.length ≤ 64)
def fitsB (s : ByteArray) : Bool := fitsL s.data.toList
theorem str_get {s : ByteArray} {pre suf : List UInt8} {c : UInt8} (h : s.data.toList = pre ++ c :: suf) : s.data.toList[pre.length]? = some c := by simp [h]
theorem str_size {s : ByteArray} {l : List UInt8} (h : s.data.toList = l) : s.size = l.length := by rw [← h]; rfl

theorem loop109 (s : ByteArray) (hs : s.size ≤ roomB) (H : List Box) (E : List Nat) : ∀ (suf pre : List UInt8) (i : Int), s.data.toList = pre ++ suf → i = pre.length →
    ∃ fr, runI cfg 109 n109_6 [(0, .d (.string s)), (5, .d (.int .i64 s.size)), (6, .d (.int .i64 i))] ⟨H, E⟩ =
      if suf.all okC then some (.exit 0, (0, .d (.string s)) :: fr, ⟨H, E⟩) else some (.ret, [(2, .d (.bool false))], ⟨H, E⟩)
  | [], pre, i, h, hi => by
    have hz := str_size h
    simp at hz
    simp [l109_6, hi, hz]
  | c :: suf, pre, i, h, hi => by
    have hz := str_size h
    simp at hz
    have hg := str_get h
    have hlt : (pre.length : Int) < s.size := by omega
    have hsz : (s.size : Int) ≤ 140737488355328 := by unfold roomB at hs; omega
    have hix : ∀ o, indexV cfg.P o 9 (.d (.string s)) (.d (.int .i64 pre.length)) = some (.d (.int .u8 c.toNat)) := fun o => indexV_str uStr (by omega) (by simpa using hg)
    obtain ⟨fr, ih⟩ := loop109 s hs H E suf (pre ++ [c]) ((pre.length : Int) + 1) (by simp [h]) (by simp)
    subst hi
    rw [l109_6]
    by_cases h1 : c.toNat < 32
    · refine ⟨fr, ?_⟩
      have hk : okC c = false := by simp [okC, h1]
      have h1' : ((c.toNat : Int) < 32) := by omega
      simp (disch := first | assumption | omega | (simp; omega) | simp) [hlt, hix, h1', hk]
    · by_cases h2 : 126 < c.toNat
      · refine ⟨fr, ?_⟩
        have hk : okC c = false := by simp [okC, h2]
        have h1' : ¬ ((c.toNat : Int) < 32) := by omega
        have h2' : ((126 : Int) < c.toNat) := by omega
        simp (disch := first | assumption | omega | (simp; omega) | simp) [hlt, hix, h1', h2', hk]
      · have h1' : ¬ ((c.toNat : Int) < 32) := by omega
        have h2' : ¬ ((126 : Int) < c.toNat) := by omega
        by_cases h3 : c.toNat = 34
        · refine ⟨fr, ?_⟩
          have hk : okC c = false := by simp [okC, h3]
          have h3' : ((c.toNat : Int) = 34) := by omega
          simp (disch := first | assumption | omega | (simp; omega) | simp) [hlt, hix, h1', h2', h3', hk]
        · refine ⟨fr, ?_⟩
          have hk : okC c = true := by simp [okC, h1, h2, h3]
          have h3' : ¬ ((c.toNat : Int) = 34) := by omega
          simp (disch := first | assumption | omega | (simp; omega) | simp) [hlt, hix, h1', h2', h3', hk, w64, gcT_stay]
          simpa using ih
theorem fits_run {s : ByteArray} {st : St} (hs : s.size ≤ roomB) : callI cfg 109 [.d (.string s)] st = some (.d (.bool (fitsB s)), st) := by
  obtain ⟨fr, h⟩ := loop109 s hs [] [] s.data.toList [] 0 rfl rfl
  by_cases hk : s.data.toList.all okC = true
  · rw [hk] at h
    simp [c109, h, fitsB, fitsL, hk]
    omega
  · simp only [Bool.not_eq_true] at hk
    rw [hk] at h
    simp [c109, h, fitsB, fitsL, hk]

theorem loop83 (s : ByteArray) (hs : s.size ≤ roomB) (H : List Box) (E : List Nat) : ∀ (suf pre : List UInt8) (i : Int), s.data.toList = pre ++ suf → i = pre.length →
    ∃ fr, runI cfg 83 n83_6 [(0, .d (.string s)), (3, .d (.int .i64 i))] ⟨H, E⟩ =
      if suf.all okC then some (.exit 0, (0, .d (.string s)) :: fr, ⟨H, E⟩) else some (.ret, [(2, .d (.bool false))], ⟨H, E⟩)
  | [], pre, i, h, hi => by
    have hz := str_size h
    simp at hz
    simp [l83_6, hi, hz]
  | c :: suf, pre, i, h, hi => by
    have hz := str_size h
    simp at hz
    have hg := str_get h
    have hlt : (pre.length : Int) < s.size := by omega
    have hsz : (s.size : Int) ≤ 140737488355328 := by unfold roomB at hs; omega
    have hix : ∀ o, indexV cfg.P o 9 (.d (.string s)) (.d (.int .i64 pre.length)) = some (.d (.int .u8 c.toNat)) := fun o => indexV_str uStr (by omega) (by simpa using hg)
    obtain ⟨fr, ih⟩ := loop83 s hs H E suf (pre ++ [c]) ((pre.length : Int) + 1) (by simp [h]) (by simp)
    subst hi
    refine ⟨fr, ?_⟩
    rw [l83_6]
    by_cases h1 : c.toNat < 32
    · have hk : okC c = false := by simp [okC, h1]
      have h1' : ((c.toNat : Int) < 32) := by omega
      simp [hlt, hix, h1', hk]
    · by_cases h2 : 126 < c.toNat
      · have hk : okC c = false := by simp [okC, h2]
        have h1' : ¬ ((c.toNat : Int) < 32) := by omega
        have h2' : ((126 : Int) < c.toNat) := by omega
        simp [hlt, hix, h1', h2', hk]
      · have h1' : ¬ ((c.toNat : Int) < 32) := by omega
        have h2' : ¬ ((126 : Int) < c.toNat) := by omega
        by_cases h3 : c.toNat = 34
        · have hk : okC c = false := by simp [okC, h3]
          have h3' : ((c.toNat : Int) = 34) := by omega
          simp [hlt, hix, h1', h2', h3', hk]
        · have hk : okC c = true := by simp [okC, h1, h2, h3]
          have h3' : ¬ ((c.toNat : Int) = 34) := by omega
          simp (disch := first | assumption | omega | (simp; omega) | simp) [hlt, hix, h1', h2', h3', hk, w64, gcT_stay]
          simpa using ih
theorem plain_run {s : ByteArray} {st : St} (hs : s.size ≤ roomB) : callI cfg 83 [.d (.string s)] st = some (.d (.bool (fitsB s)), st) := by
  obtain ⟨fr, h⟩ := loop83 s hs [] [] s.data.toList [] 0 rfl rfl
  by_cases hk : s.data.toList.all okC = true
  · rw [hk] at h
    simp [c83, h, fitsB, fitsL, hk]
    omega
  · simp only [Bool.not_eq_true] at hk
    rw [hk] at h
    simp [c83, h, fitsB, fitsL, hk]

def textK (k : Int) : Bool := decide (k = 1) || decide (k = 10)
def beginK (k : Int) : Bool := decide (k = 1) || (decide (k = 2) || decide (k = 3))
def topK (k : Int) : Int := if k = 2 then 15 else if k = 7 ∨ k = 8 then 999 else -1
theorem text_run {k : Int} {st : St} : callI cfg 108 [.d (.int .i64 k)] st = some (.d (.bool (textK k)), st) := by
  by_cases h : k = 1 <;> simp [c108, textK, h]
theorem begins_run {k : Int} {st : St} : callI cfg 99 [.d (.int .i64 k)] st = some (.d (.bool (beginK k)), st) := by
  by_cases h : k = 1
  · simp [c99, beginK, h]
  · by_cases h2 : k = 2 <;> simp [c99, beginK, h, h2]
theorem top_run {k : Int} {st : St} : callI cfg 110 [.d (.int .i64 k)] st = some (.d (.int .i64 (topK k)), st) := by
  by_cases h : k = 2
  · simp [c110, topK, h]
  · by_cases h2 : k = 7
    · simp [c110, topK, h2]
    · by_cases h3 : k = 8 <;> simp [c110, topK, h, h2, h3]
def emptyS : ByteArray := ByteArray.empty
/-- A thing that may be done. -/
def rightD (d : DoV) : Bool :=
  if d.kind < 1 ∨ 11 < d.kind then false
  else if textK d.kind then decide (d.n = 0) && fitsB d.text
  else decide (d.text = ByteArray.empty) && (decide (0 ≤ d.n) && decide (d.n ≤ max (topK d.kind) 0))
theorem right_run {d : DoV} {st : St} (hs : d.text.size ≤ roomB) : callI cfg 98 [.agg d.t] st = some (.d (.bool (rightD d)), st) := by
  obtain ⟨k, n, s⟩ := d
  simp only at hs
  by_cases h1 : k < 1
  · simp [c98, DoV.t, rightD, h1]
  · by_cases h2 : 11 < k
    · simp [c98, DoV.t, rightD, h1, h2]
    · by_cases h3 : textK k = true
      · by_cases h4 : n = 0
        · simp [c98, DoV.t, rightD, h1, h2, h3, h4, text_run, fits_run hs]
        · simp [c98, DoV.t, rightD, h1, h2, h3, h4, text_run]
      · simp only [Bool.not_eq_true] at h3
        by_cases h4 : s = ByteArray.empty
        · by_cases h5 : 0 ≤ n
          · simp [c98, DoV.t, rightD, h1, h2, h3, h4, h5, text_run, top_run]
          · simp [c98, DoV.t, rightD, h1, h2, h3, h4, h5, text_run]
        · simp [c98, DoV.t, rightD, h1, h2, h3, h4, text_run]
/-- An action that may be done: the first thing begins, no other does. -/
def okDos : Bool → List DoV → Bool
  | _, [] => true
  | first, d :: l => rightD d && (decide (beginK d.kind = first) && okDos false l)
def okAct (l : List DoV) : Bool := okDos true l && (decide (1 ≤ l.length) && decide (l.length ≤ 8))
end Go.Proofs.CfgA
end
section
namespace Go.Proofs.CfgA
open Go Go.Tm Go.Proofs
set_option maxRecDepth 100000
set_option linter.unusedSimpArgs false
theorem right_run' {k n : Int} {s : ByteArray} {st : St} (hs : s.size ≤ roomB) : callI cfg 98 [.agg [.d (.int .i64 k), .d (.int .i64 n), .d (.string s)]] st = some (.d (.bool (rightD ⟨k, n, s⟩)), st) := right_run (d := ⟨k, n, s⟩) hs

theorem loop80 (l : List DoV) (nl2 : Bool) (o2 : Ow) (hnl : nl2 = true → l = []) (hm : l.length ≤ 1000000) (hs : ∀ d ∈ l, d.text.size ≤ roomB) (E : List Nat) : ∀ (suf pre : List DoV) (i : Int), l = pre ++ suf → i = pre.length →
    ∃ fr H', runI cfg 80 n80_6 [(0, .sl nl2 l.length (dosD l) o2), (5, .sl nl2 l.length (dosD l) o2), (6, .d (.int .i64 l.length)), (7, .d (.int .i64 i))] ⟨[], E⟩ =
      if okDos pre.isEmpty suf then some (.exit 0, (0, .sl nl2 l.length (dosD l) o2) :: fr, ⟨[], E⟩) else some (.ret, [(2, .d (.bool false))], ⟨H', E⟩)
  | [], pre, i, hl, h4 => by
    subst h4
    simp [l80_6, okDos, hl]
  | d :: suf, pre, i, hl, h4 => by
    subst h4
    have hi : pre.length < l.length := by rw [hl]; simp
    have hg : l[pre.length] = d := by simp [hl]
    have hnl' : nl2 = false := by cases nl2 with | false => rfl | true => exact absurd (hnl rfl) (by rw [hl]; simp)
    subst hnl'
    have hp := dosD_piece l pre.length hi
    have hsd := hs d (by simp [hl])
    rw [hg] at hp
    obtain ⟨k, n, s⟩ := d
    simp only at hsd
    obtain ⟨fr, H', ih⟩ := loop80 l false o2 hnl hm hs E suf (pre ++ [⟨k, n, s⟩]) ((pre.length : Int) + 1) (by simp [hl]) (by simp)
    rw [l80_6]
    by_cases h1 : rightD ⟨k, n, s⟩ = true
    · by_cases h2 : beginK k = pre.isEmpty
      · have he : decide (pre = []) = pre.isEmpty := by cases pre <;> rfl
        refine ⟨fr, H', ?_⟩
        have hf : (pre ++ [(⟨k, n, s⟩ : DoV)]).isEmpty = false := by simp
        rw [hf] at ih
        simp (disch := first | assumption | omega | (simp; omega) | simp) [hi, ixV_sl, hp, DoV.t, putAt, right_run', begins_run, binV_bne uBool, w64, okDos, h1, h2, he]
        rw [gcT_cut (by simp) (by simp) (by simp)]
        simpa using ih
      · refine ⟨fr, [.cells [.d (.int .i64 k), .d (.int .i64 n), .d (.string s)]], ?_⟩
        have he : decide (pre = []) = pre.isEmpty := by cases pre <;> rfl
        simp (disch := first | assumption | omega | (simp; omega) | simp) [hi, ixV_sl, hp, DoV.t, putAt, right_run', begins_run, binV_bne uBool, okDos, h1, h2, he]
    · simp only [Bool.not_eq_true] at h1
      refine ⟨fr, [.cells [.d (.int .i64 k), .d (.int .i64 n), .d (.string s)]], ?_⟩
      simp (disch := first | assumption | omega | (simp; omega) | simp) [hi, ixV_sl, hp, DoV.t, putAt, right_run', okDos, h1]

theorem ok_run {l : List DoV} {nl : Bool} {n : Nat} {o : Ow} {st : St} (hn : n = l.length) (hnl : nl = true → l = []) (hm : l.length ≤ 1000000) (hs : ∀ d ∈ l, d.text.size ≤ roomB) :
    callI cfg 80 [.sl nl n (dosD l) o] st = some (.d (.bool (okAct l)), st) := by
  subst hn
  obtain ⟨fr, H', h⟩ := loop80 l nl (closeO o) hnl hm hs [] l [] 0 rfl rfl
  by_cases h1 : okDos true l = true
  · have h1' : okDos ([] : List DoV).isEmpty l = true := h1
    rw [h1'] at h
    simp at h
    by_cases h2 : 1 ≤ l.length
    · have h2' : (1 : Int) ≤ l.length := by omega
      simp [c80, h, okAct, h1, h2, h2']
      omega
    · have h2' : ¬ (1 : Int) ≤ l.length := by omega
      simp [c80, h, okAct, h1, h2, h2']
  · simp only [Bool.not_eq_true] at h1
    have h1' : okDos ([] : List DoV).isEmpty l = false := h1
    rw [h1'] at h
    simp at h
    simp [c80, h, okAct, h1]
end Go.Proofs.CfgA
end
section
namespace Go.Proofs.CfgA
open Go Go.Tm Go.Proofs
set_option maxRecDepth 100000
set_option linter.unusedSimpArgs false
def badD (k n : Int) (s : ByteArray) (first z txt : Bool) (most : Int) : Bool :=
  decide (k < 1) || (decide (11 < k) || ((!decide (first = z)) || (decide (n < 0) || (decide (most < n) || ((!fitsB s) || ((!txt) && !decide (s = ByteArray.empty)))))))
theorem reg36 {x0 : T} {rest : Fr} {i k n most : Int} {s : ByteArray} {first z txt : Bool} {E : List Nat} (hs : s.size ≤ roomB) (hz : decide (i = 0) = z) : runI cfg 60 n60_36 ([(0, x0), (3, .d (.int .i64 i)), (4, .ptr 0 0), (5, .d (.bool first)), (6, .d (.bool txt)), (7, .d (.int .i64 most))] ++ rest) ⟨[.cells [.d (.int .i64 k), .d (.int .i64 n), .d (.string s)]], E⟩ =
    some (.normal, [(0, x0), (3, .d (.int .i64 i)), (89, .d (.bool (badD k n s first z txt most)))], ⟨[.cells [.d (.int .i64 k), .d (.int .i64 n), .d (.string s)]], E⟩) := by
  by_cases h1 : k < 1
  · simp [badD, h1]
  by_cases h2 : 11 < k
  · simp [badD, h1, h2]
  by_cases h3 : first = z
  · by_cases h4 : n < 0
    · simp [badD, h1, h2, h3, h4, hz, binV_bne uBool]
    by_cases h5 : most < n
    · simp [badD, h1, h2, h3, h4, h5, hz, binV_bne uBool]
    by_cases h6 : fitsB s = true
    · cases txt <;> simp [badD, h1, h2, h3, h4, h5, h6, hz, binV_bne uBool, plain_run hs]
    · simp [badD, h1, h2, h3, h4, h5, h6, hz, binV_bne uBool, plain_run hs]
  · simp [badD, h1, h2, h3, hz, binV_bne uBool]
def mostK (k : Int) : Int := if k = 2 then 15 else if k = 7 ∨ k = 8 then 999 else 0
theorem fits_empty : fitsB ByteArray.empty = true := by decide
theorem bad_right (k n : Int) (s : ByteArray) (z : Bool) : badD k n s (beginK k) z (textK k) (mostK k) = !(rightD ⟨k, n, s⟩ && decide (beginK k = z)) := by
  have ht : textK k = true → mostK k = 0 := by
    intro h; unfold textK at h; unfold mostK; simp at h; rcases h with rfl | rfl <;> rfl
  have hm : mostK k = max (topK k) 0 := by
    unfold mostK topK
    by_cases h : k = 2
    · subst h; rfl
    · by_cases h7 : k = 7 ∨ k = 8
      · rcases h7 with rfl | rfl <;> rfl
      · simp only [h, h7, if_false]; rfl
  unfold badD rightD
  by_cases h1 : k < 1
  · simp [h1]
  by_cases h2 : 11 < k
  · simp [h1, h2]
  by_cases h3 : beginK k = z
  · by_cases h4 : textK k = true
    · have h0 := ht h4
      simp [h1, h2, h3, h4, h0]
      by_cases h5 : n = 0
      · subst h5; simp
      · have : n < 0 ∨ 0 < n := by omega
        rcases this with h | h <;> simp [h5, h]
    · simp [h1, h2, h3, h4]
      by_cases h5 : s = ByteArray.empty
      · subst h5
        rw [fits_empty, hm]
        simp only [decide_true, Bool.true_and, Bool.not_true, Bool.false_or, Bool.or_false]
        by_cases h6 : n < 0
        · have h6' : ¬ 0 ≤ n := by omega
          simp [h6, h6']
        · have h6' : 0 ≤ n := by omega
          simp only [h6, h6', decide_true, decide_false, Bool.false_or, Bool.true_and]
          by_cases h7 : n ≤ max (topK k) 0
          · have h7' : ¬ (max (topK k) 0 < n) := by omega
            simp only [h7, h7', decide_true, decide_false, Bool.not_true]; rfl
          · have h7' : (max (topK k) 0 < n) := by omega
            simp only [h7, h7', decide_true, decide_false, Bool.not_false]; rfl
      · simp [h5]
  · simp [h1, h2, h3]
theorem loop60 (l : List DoV) (nl2 : Bool) (o2 : Ow) (hnl : nl2 = true → l = []) (hm : l.length ≤ 1000000) (hs : ∀ d ∈ l, d.text.size ≤ roomB) (E : List Nat) : ∀ (suf pre : List DoV) (i : Int), l = pre ++ suf → i = pre.length →
    ∃ fr H', runI cfg 60 n60_6 [(0, .sl nl2 l.length (dosD l) o2), (3, .d (.int .i64 i))] ⟨[], E⟩ =
      if okDos pre.isEmpty suf then some (.exit 0, (0, .sl nl2 l.length (dosD l) o2) :: fr, ⟨[], E⟩) else some (.ret, [(2, .d (.bool false))], ⟨H', E⟩)
  | [], pre, i, hl, h4 => by
    subst h4
    simp [l60_6, okDos, hl]
  | d :: suf, pre, i, hl, h4 => by
    subst h4
    have hi : pre.length < l.length := by rw [hl]; simp
    have hg : l[pre.length] = d := by simp [hl]
    have hnl' : nl2 = false := by cases nl2 with | false => rfl | true => exact absurd (hnl rfl) (by rw [hl]; simp)
    subst hnl'
    have hp := dosD_piece l pre.length hi
    have hsd := hs d (by simp [hl])
    rw [hg] at hp
    obtain ⟨k, n, s⟩ := d
    simp only at hsd
    obtain ⟨fr, H', ih⟩ := loop60 l false o2 hnl hm hs E suf (pre ++ [⟨k, n, s⟩]) ((pre.length : Int) + 1) (by simp [hl]) (by simp)
    have he : decide ((pre.length : Int) = 0) = pre.isEmpty := by cases pre <;> simp; omega
    have hf : (pre ++ [(⟨k, n, s⟩ : DoV)]).isEmpty = false := by simp
    rw [hf] at ih
    have hr := fun x0 rest most txt first => reg36 (x0 := x0) (rest := rest) (i := (pre.length : Int)) (k := k) (n := n) (most := most) (s := s) (first := first) (z := pre.isEmpty) (txt := txt) (E := E) hsd he
    simp only [List.cons_append, List.nil_append] at hr
    have hb := bad_right k n s pre.isEmpty
    have hfin : ∀ b : Bool, badD k n s (beginK k) pre.isEmpty (textK k) (mostK k) = b → okDos pre.isEmpty (⟨k, n, s⟩ :: suf) = (!b && okDos false suf) := by
      intro b h; rw [← h, hb]; simp [okDos, Bool.and_assoc]
    rw [l60_6]
    have hk : k = 1 ∨ k = 2 ∨ k = 3 ∨ k = 7 ∨ k = 8 ∨ k = 10 ∨ (k ≠ 1 ∧ k ≠ 2 ∧ k ≠ 3 ∧ k ≠ 7 ∧ k ≠ 8 ∧ k ≠ 10) := by omega
    cases hbad : badD k n s (beginK k) pre.isEmpty (textK k) (mostK k) with
    | true =>
      rw [hfin _ hbad]
      refine ⟨fr, [.cells [.d (.int .i64 k), .d (.int .i64 n), .d (.string s)]], ?_⟩
      clear hl hg hb hfin
      rcases hk with rfl | rfl | rfl | rfl | rfl | rfl | ⟨k1, k2, k3, k7, k8, k10⟩
      iterate 6
        · simp [beginK, textK, mostK] at hbad
          simp (disch := first | assumption | omega | (simp; omega) | simp) [-e60_36, hi, ixV_sl, hp, DoV.t, putAt, hr, hbad]
      · simp [beginK, textK, mostK, k1, k2, k3, k7, k8, k10] at hbad
        simp (disch := first | assumption | omega | (simp; omega) | simp) [-e60_36, hi, ixV_sl, hp, DoV.t, putAt, hr, hbad, k1, k2, k3, k7, k8, k10]
    | false =>
      rw [hfin _ hbad]
      refine ⟨fr, H', ?_⟩
      clear hl hg hb hfin
      rcases hk with rfl | rfl | rfl | rfl | rfl | rfl | ⟨k1, k2, k3, k7, k8, k10⟩
      iterate 6
        · simp [beginK, textK, mostK] at hbad
          simp (disch := first | assumption | omega | (simp; omega) | simp) [-e60_36, hi, ixV_sl, hp, DoV.t, putAt, hr, hbad, w64]
          rw [gcT_cut (by simp) (by simp) (by simp)]
          simpa using ih
      · simp [beginK, textK, mostK, k1, k2, k3, k7, k8, k10] at hbad
        simp (disch := first | assumption | omega | (simp; omega) | simp) [-e60_36, hi, ixV_sl, hp, DoV.t, putAt, hr, hbad, w64, k1, k2, k3, k7, k8, k10]
        rw [gcT_cut (by simp) (by simp) (by simp)]
        simpa using ih
theorem okact_run {l : List DoV} {nl : Bool} {n : Nat} {o : Ow} {st : St} (hn : n = l.length) (hnl : nl = true → l = []) (hm : l.length ≤ 1000000) (hs : ∀ d ∈ l, d.text.size ≤ roomB) :
    callI cfg 60 [.sl nl n (dosD l) o] st = some (.d (.bool (okAct l)), st) := by
  subst hn
  obtain ⟨fr, H', h⟩ := loop60 l nl (closeO o) hnl hm hs [] l [] 0 rfl rfl
  by_cases h1 : okDos true l = true
  · have h1' : okDos ([] : List DoV).isEmpty l = true := h1
    rw [h1'] at h
    simp at h
    by_cases h2 : 1 ≤ l.length
    · have h2' : (1 : Int) ≤ l.length := by omega
      simp [c60, h, okAct, h1, h2, h2']
      omega
    · have h2' : ¬ (1 : Int) ≤ l.length := by omega
      simp [c60, h, okAct, h1, h2, h2']
  · simp only [Bool.not_eq_true] at h1
    have h1' : okDos ([] : List DoV).isEmpty l = false := h1
    rw [h1'] at h
    simp at h
    simp [c60, h, okAct, h1]
end Go.Proofs.CfgA
end
section
namespace Go.Proofs.CfgA
open Go Go.Tm Go.Proofs
set_option maxRecDepth 100000
set_option linter.unusedSimpArgs false
/-- Two rows that hold the same. -/
def sameR : List Row → List Row → Bool
  | [], [] => true
  | a :: x, b :: y => decide (a.2 = b.2) && sameR x y
  | _, _ => false
theorem sameR_iff : ∀ (x y : List Row), sameR x y = true ↔ x.map (·.2) = y.map (·.2)
  | [], [] => by simp [sameR]
  | [], _ :: _ => by simp [sameR]
  | _ :: _, [] => by simp [sameR]
  | a :: x, b :: y => by simp [sameR, sameR_iff x y]
theorem conv_bs {P : Program} {o : Op} {e : TypeId} {nl : Bool} {w : Ow} {l : List UInt8} : convV P o false (some (.slice e)) (some .string) (some (.int .u8)) none (.sl nl l.length (u8s l) w) = some (.d (.string ⟨l.toArray⟩)) := by
  simp [convV]
theorem loop19 (x y : List Row) (nl nl2 : Bool) (o o2 : Ow) (hnl : nl = true → x = []) (hnl2 : nl2 = true → y = []) (hm : x.length ≤ 1000000) (hxy : x.length = y.length) (H : List Box) (E : List Nat) : ∀ (sx px sy py : List Row) (i : Int), x = px ++ sx → y = py ++ sy → px.length = py.length → i = px.length →
    ∃ fr, runI cfg 19 n19_14 [(0, .sl nl x.length (rowsD x) o), (1, .sl nl2 y.length (rowsD y) o2), (5, .d (.int .i64 i))] ⟨H, E⟩ =
      if sameR sx sy then some (.exit 0, fr, ⟨H, E⟩) else some (.ret, [(4, .d (.bool false))], ⟨H, E⟩)
  | [], px, sy, py, i, hx, hy, hp, h4 => by
    have : sy = [] := by
      have h1 := congrArg List.length hx
      have h2 := congrArg List.length hy
      simp at h1 h2
      exact List.length_eq_zero_iff.1 (by omega)
    subst h4 this
    simp [l19_14, sameR, hx]
  | a :: sx, px, [], py, i, hx, hy, hp, h4 => by
    exfalso
    have h1 := congrArg List.length hx
    have h2 := congrArg List.length hy
    simp at h1 h2
    omega
  | a :: sx, px, b :: sy, py, i, hx, hy, hp, h4 => by
    subst h4
    have hi : px.length < x.length := by rw [hx]; simp
    have hj : px.length < y.length := by omega
    have ha : x[px.length]? = some a := by simp [hx]
    have ha2 : x[px.length] = a := by simp [hx]
    have hb : y[px.length]? = some b := by rw [hp]; simp [hy]
    have hb2 : y[px.length] = b := by have := (List.getElem?_eq_some_iff.1 hb).2; exact this
    have e1 : nl = false := by cases nl with | false => rfl | true => exact absurd (hnl rfl) (by rw [hx]; simp)
    have e2 : nl2 = false := by cases nl2 with | false => rfl | true => exact absurd (hnl2 rfl) (by rw [hy]; simp)
    subst e1 e2
    obtain ⟨fr, ih⟩ := loop19 x y false false o o2 hnl hnl2 hm hxy H E sx (px ++ [a]) sy (py ++ [b]) ((px.length : Int) + 1) (by simp [hx]) (by simp [hy]) (by simp [hp]) (by simp)
    refine ⟨fr, ?_⟩
    rw [l19_14]
    have hs : (⟨a.2.toArray⟩ : ByteArray) = ⟨b.2.toArray⟩ ↔ a.2 = b.2 := by simp
    by_cases hab : a.2 = b.2
    · simp (disch := first | assumption | omega | (simp; omega) | simp) [hi, ixV_sl, ha, ha2, hb, hb2, hj, conv_bs, hab, sameR, w64, gcT_stay]
      simpa using ih
    · simp (disch := first | assumption | omega | (simp; omega) | simp) [hi, ixV_sl, ha, ha2, hb, hb2, hj, conv_bs, hab, sameR]
theorem same_len : ∀ (x y : List Row), sameR x y = true → x.length = y.length
  | [], [], _ => rfl
  | [], _ :: _, h => by simp [sameR] at h
  | _ :: _, [], h => by simp [sameR] at h
  | a :: x, b :: y, h => by simp [sameR] at h; simp [same_len x y h.2]
theorem samerows_run {x y : List Row} {nl nl2 : Bool} {m n : Nat} {o o2 : Ow} {st : St} (h1 : m = x.length) (h2 : n = y.length) (hnl : nl = true → x = []) (hnl2 : nl2 = true → y = []) (hm : x.length ≤ 1000000) :
    callI cfg 19 [.sl nl m (rowsD x) o, .sl nl2 n (rowsD y) o2] st = some (.d (.bool (sameR x y)), st) := by
  subst h1 h2
  by_cases hl : x.length = y.length
  · obtain ⟨fr, h⟩ := loop19 x y nl nl2 (closeO o) (closeO o2) hnl hnl2 hm hl [] [] x [] y [] 0 rfl rfl rfl rfl
    rw [hl] at h
    by_cases hs : sameR x y = true
    · rw [hs] at h
      simp [c19, hl, h, hs]
    · simp only [Bool.not_eq_true] at hs
      rw [hs] at h
      simp [c19, hl, h, hs]
  · have hl' : ¬ ((x.length : Int) = y.length) := by omega
    have hs : sameR x y = false := by
      cases h : sameR x y with
      | false => rfl
      | true => exact absurd (same_len x y h) hl
    simp [c19, hl', hl, hs]
end Go.Proofs.CfgA
end
section
namespace Go.Proofs.CfgA
open Go Go.Tm Go.Proofs
set_option maxRecDepth 100000
set_option linter.unusedSimpArgs false
noncomputable def fsDo : Array Field := match cfg.P.underlying 47 with | some (.struct fs) => fs | _ => #[]
theorem uDo : cfg.P.underlying 47 = some (.struct fsDo) := by kernel_rfl
theorem gDo : cfg.P.stoodInHeld 47 = false ∧ cfg.P.eqGuardType cfg.P.depth 47 = false := ⟨by kernel_rfl, by kernel_rfl⟩
theorem eqDo (a b : DoV) : fieldsEq cfg.P a.t b.t fsDo.toList = some (decide (a.kind = b.kind) && (decide (a.n = b.n) && ((a.text.data.toList == b.text.data.toList) && true))) := by kernel_rfl
theorem DoV_ext (a b : DoV) : (decide (a.kind = b.kind) && (decide (a.n = b.n) && ((a.text.data.toList == b.text.data.toList) && true))) = decide (a = b) := by
  obtain ⟨k, n, s⟩ := a
  obtain ⟨k2, n2, s2⟩ := b
  rw [ba_eq]
  by_cases h1 : k = k2 <;> by_cases h2 : n = n2 <;> by_cases h3 : s = s2 <;> simp [h1, h2, h3]
theorem neDo (o : Op) (a b : DoV) : binV cfg.P o .neq 47 (tyG cfg 47) (.agg a.t) (.agg b.t) = some (.d (.bool !decide (a = b))) := by
  rw [binV_ane uDo gDo (eqDo a b), DoV_ext]
def sameD : List DoV → List DoV → Bool
  | [], [] => true
  | a :: x, b :: y => decide (a = b) && sameD x y
  | _, _ => false
theorem sameD_iff : ∀ (x y : List DoV), sameD x y = true ↔ x = y
  | [], [] => by simp [sameD]
  | [], _ :: _ => by simp [sameD]
  | _ :: _, [] => by simp [sameD]
  | a :: x, b :: y => by simp [sameD, sameD_iff x y]
theorem loop25 (x y : List DoV) (nl nl2 : Bool) (o o2 : Ow) (hnl : nl = true → x = []) (hnl2 : nl2 = true → y = []) (hm : x.length ≤ 1000000) (hxy : x.length = y.length) (H : List Box) (E : List Nat) : ∀ (sx px sy py : List DoV) (i : Int), x = px ++ sx → y = py ++ sy → px.length = py.length → i = px.length →
    ∃ fr, runI cfg 25 n25_14 [(0, .sl nl x.length (dosD x) o), (1, .sl nl2 y.length (dosD y) o2), (5, .d (.int .i64 i))] ⟨H, E⟩ =
      if sameD sx sy then some (.exit 0, fr, ⟨H, E⟩) else some (.ret, [(4, .d (.bool false))], ⟨H, E⟩)
  | [], px, sy, py, i, hx, hy, hp, h4 => by
    have : sy = [] := by
      have h1 := congrArg List.length hx
      have h2 := congrArg List.length hy
      simp at h1 h2
      exact List.length_eq_zero_iff.1 (by omega)
    subst h4 this
    simp [l25_14, sameD, hx]
  | a :: sx, px, [], py, i, hx, hy, hp, h4 => by
    exfalso
    have h1 := congrArg List.length hx
    have h2 := congrArg List.length hy
    simp at h1 h2
    omega
  | a :: sx, px, b :: sy, py, i, hx, hy, hp, h4 => by
    subst h4
    have hi : px.length < x.length := by rw [hx]; simp
    have hj : px.length < y.length := by omega
    have ha2 : x[px.length] = a := by simp [hx]
    have hb : y[px.length]? = some b := by rw [hp]; simp [hy]
    have hb2 : y[px.length] = b := by have := (List.getElem?_eq_some_iff.1 hb).2; exact this
    have pa := dosD_piece x px.length hi
    have pb := dosD_piece y px.length hj
    rw [ha2] at pa
    rw [hb2] at pb
    have e1 : nl = false := by cases nl with | false => rfl | true => exact absurd (hnl rfl) (by rw [hx]; simp)
    have e2 : nl2 = false := by cases nl2 with | false => rfl | true => exact absurd (hnl2 rfl) (by rw [hy]; simp)
    subst e1 e2
    obtain ⟨fr, ih⟩ := loop25 x y false false o o2 hnl hnl2 hm hxy H E sx (px ++ [a]) sy (py ++ [b]) ((px.length : Int) + 1) (by simp [hx]) (by simp [hy]) (by simp [hp]) (by simp)
    refine ⟨fr, ?_⟩
    rw [l25_14]
    by_cases hab : a = b
    · simp (disch := first | assumption | omega | (simp; omega) | simp) [hi, ixV_sl, pa, pb, neDo, hab, sameD, w64, gcT_stay]
      simpa using ih
    · simp (disch := first | assumption | omega | (simp; omega) | simp) [hi, ixV_sl, pa, pb, neDo, hab, sameD]
theorem sameD_len : ∀ (x y : List DoV), sameD x y = true → x.length = y.length
  | x, y, h => by rw [(sameD_iff x y).1 h]
theorem sameact_run {x y : List DoV} {nl nl2 : Bool} {m n : Nat} {o o2 : Ow} {st : St} (h1 : m = x.length) (h2 : n = y.length) (hnl : nl = true → x = []) (hnl2 : nl2 = true → y = []) (hm : x.length ≤ 1000000) :
    callI cfg 25 [.sl nl m (dosD x) o, .sl nl2 n (dosD y) o2] st = some (.d (.bool (sameD x y)), st) := by
  subst h1 h2
  by_cases hl : x.length = y.length
  · obtain ⟨fr, h⟩ := loop25 x y nl nl2 (closeO o) (closeO o2) hnl hnl2 hm hl [] [] x [] y [] 0 rfl rfl rfl rfl
    rw [hl] at h
    by_cases hs : sameD x y = true
    · rw [hs] at h
      simp [c25, hl, h, hs]
    · simp only [Bool.not_eq_true] at hs
      rw [hs] at h
      simp [c25, hl, h, hs]
  · have hl' : ¬ ((x.length : Int) = y.length) := by omega
    have hs : sameD x y = false := by
      cases h : sameD x y with
      | false => rfl
      | true => exact absurd (sameD_len x y h) hl
    simp [c25, hl', hl, hs]
end Go.Proofs.CfgA
end
section
namespace Go.Proofs.CfgA
open Go Go.Tm Go.Proofs
set_option maxRecDepth 100000
set_option linter.unusedSimpArgs false
theorem rdNum_le {r : RdV} {top : Int} (h : 0 ≤ top) : (rdNum r top).1 ≤ top := by
  unfold rdNum
  split
  · exact h
  · split
    · exact h
    · simp only; omega
theorem newE_app (E : List Nat) (l : List UInt8) : ∃ E2, newE E l = E ++ E2 := by
  unfold newE; split
  · exact ⟨[], by simp⟩
  · exact ⟨_, rfl⟩
def strOf (l : List UInt8) : ByteArray := ⟨l.toArray⟩
def actLoop : Nat → RdV → List DoV → List DoV × RdV
  | 0, r, l => (l, r)
  | n + 1, r, l => actLoop n (rdB (rdNum (rdNum r 11).2 999).2 256).2.2 (l ++ [⟨(rdNum r 11).1, (rdNum (rdNum r 11).2 999).1, strOf (rdB (rdNum (rdNum r 11).2 999).2 256).2.1⟩])
theorem conv_bs' {P : Program} {o : Op} {e : TypeId} {nl : Bool} {w : Ow} {l : List UInt8} {n : Nat} (h : n = l.length) : convV P o false (some (.slice e)) (some .string) (some (.int .u8)) none (.sl nl n (u8s l) w) = some (.d (.string (strOf l))) := by
  subst h; exact conv_bs
set_option maxHeartbeats 4000000 in
theorem loop47 (N : Nat) : ∀ (m j : Nat) (r : RdV) (l L : List DoV) (R : RdV) (nl : Bool) (o : Ow) (E : List Nat) (k : Nat) (i : Int), j + m = N → actLoop m r l = (L, R) → k = l.length → i = j → r.ok → r.l.length ≤ roomB → Own E nl l.length o → l.length + m ≤ 100000 → N ≤ 1000000 →
    ∃ nl' o' E' fr, runI cfg 47 n47_10 [(4, .ptr 0 0), (5, .sl nl k (dosD l) o), (10, .d (.int .i64 N)), (11, .d (.int .i64 i))] ⟨[.cells r.cs], E⟩ =
      some (.exit 0, (4, .ptr 0 0) :: (5, .sl nl' L.length (dosD L) o') :: fr, ⟨[.cells R.cs], E'⟩) ∧ (nl' = true → nl = true ∧ L = l)
  | 0, j, r, l, L, R, nl, o, E, k, i, hj, hL, hk, hi, hr, hb, ho, hlen, hN => by
    simp [actLoop] at hL
    obtain ⟨rfl, rfl⟩ := hL
    subst hk hi
    have : j = N := by omega
    subst this
    refine ⟨nl, o, E, ?_⟩
    simp [l47_10]
  | m + 1, j, r, l, L, R, nl, o, E, k, i, hj, hL, hk, hi, hr, hb, ho, hlen, hN => by
    subst hk hi
    have hlt : (j : Int) < N := by omega
    obtain ⟨ok1, pos1, len1⟩ := rdNum_ok (top := 11) hr
    obtain ⟨ok2, pos2, len2⟩ := rdNum_ok (top := 999) ok1
    obtain ⟨ok3, nil3, len3, len3'⟩ := rdB_ok (top := 256) ok2
    have k1 := rnum49 (r := r) (top := 11) (H := []) (E := E) hr
    have k2 := rnum49 (r := (rdNum r 11).2) (top := 999) (H := []) (E := E) ok1
    have k3 := rbytes48 (r := (rdNum (rdNum r 11).2 999).2) (top := 256) (H := [.cells [.d (.int .i64 (rdNum r 11).1), .d (.int .i64 (rdNum (rdNum r 11).2 999).1), .d (.string ByteArray.empty)]]) (E := E) ok2 (by omega)
    rw [actLoop] at hL
    generalize rdNum r 11 = p1 at *
    obtain ⟨v1, r1⟩ := p1
    simp only at *
    generalize rdNum r1 999 = p2 at *
    obtain ⟨v2, r2⟩ := p2
    simp only at *
    generalize rdB r2 256 = p3 at *
    obtain ⟨nb, x, r3⟩ := p3
    simp only at *
    obtain ⟨E2, hE2⟩ := newE_app E x
    have hown : Own (newE E x) nl l.length o := by rw [hE2]; exact own_app ho
    obtain ⟨o2, E3, ha, hown2⟩ := app_own (st := ⟨[.cells r3.cs, .cells [.d (.int .i64 v1), .d (.int .i64 v2), .d (.string (strOf x))]], newE E x⟩) (n := 3) (b := 32) (k := 1) (cs := dosD l) (ys := DoV.d ⟨v1, v2, strOf x⟩) (nl' := false) (o' := .lit) hown (by simp) rfl (by omega) (by unfold roomB; omega)
    obtain ⟨nl', o', E', fr, ih, ih2⟩ := loop47 N m (j + 1) r3 (l ++ [⟨v1, v2, strOf x⟩]) L R false o2 E3 (l.length + 1) ((j : Int) + 1) (by omega) hL (by simp) (by omega) ok3 (by omega) (by simpa using hown2) (by simp; omega) hN
    refine ⟨nl', o', E', fr, ?_, fun h => absurd (ih2 h).1 (by simp)⟩
    rw [l47_10]
    rw [dosD_append, ← dosD_one] at ih
    simp [DoV.d] at ha ih
    have hw : IntKind.i64.wrap ((j : Int) + 1) = j + 1 := w64 (by omega) (by omega)
    simp [hlt, k1, k2, k3, putAt, conv_bs', ha, hw]
    rw [gcT_cut (by simp) (by simp) (by simp)]
    simpa using ih
end Go.Proofs.CfgA
end
section
namespace Go.Proofs.CfgA
open Go Go.Tm Go.Proofs
set_option maxRecDepth 100000
set_option linter.unusedSimpArgs false
/-! ### readers without memory -/
abbrev Rd := Option (List UInt8)
def RdV.abs (r : RdV) : Rd := if r.bad = true then none else some r.l
def aNum (s : Rd) (top : Int) : Int × Rd :=
  match s with
  | none => (0, none)
  | some l => if l.length < 6 ∨ top < (beN (l.take 6) : Int) then (0, none) else (beN (l.take 6), some (l.drop 6))
def aB (s : Rd) (top : Int) : List UInt8 × Rd :=
  match (aNum s top).2 with
  | none => ([], none)
  | some l => if l.length < (aNum s top).1.toNat then ([], none) else (l.take (aNum s top).1.toNat, some (l.drop (aNum s top).1.toNat))
def aAct (T : Int) : Nat → Rd → List DoV → List DoV × Rd
  | 0, s, l => (l, s)
  | n + 1, s, l => aAct T n (aB (aNum (aNum s 11).2 999).2 T).2 (l ++ [⟨(aNum s 11).1, (aNum (aNum s 11).2 999).1, strOf (aB (aNum (aNum s 11).2 999).2 T).1⟩])
def aRows : Nat → Rd → List (List UInt8) → List (List UInt8) × Rd
  | 0, s, l => (l, s)
  | n + 1, s, l => aRows n (aB s 256).2 (l ++ [(aB s 256).1])
def aAction (T : Int) (b : List UInt8) : List DoV × Bool :=
  let p := aNum (some b) 8
  let q := aAct T p.1.toNat p.2 []
  (q.1, decide (q.2 = some []) && okAct q.1)
theorem abs_num (r : RdV) (top : Int) : (rdNum r top).1 = (aNum r.abs top).1 ∧ (rdNum r top).2.abs = (aNum r.abs top).2 ∧ ((rdNum r top).2.bad = true → (rdNum r top).2.l = [] ∧ (rdNum r top).1 = 0) := by
  unfold rdNum RdV.abs aNum
  obtain ⟨nl, l, o, bad⟩ := r
  cases bad with
  | true => simp [failR]
  | false =>
    by_cases h : l.length < 6
    · simp [h, failR]
    · by_cases h2 : top < (beN (l.take 6) : Int) <;> simp [h, h2, failR]
theorem abs_b (r : RdV) (top : Int) : (rdB r top).2.1 = (aB r.abs top).1 ∧ (rdB r top).2.2.abs = (aB r.abs top).2 := by
  obtain ⟨h1, h2, h3⟩ := abs_num r top
  unfold rdB aB
  rw [← h1, ← h2]
  generalize rdNum r top = p at *
  obtain ⟨n, nl, l, o, bad⟩ := p
  cases bad with
  | true =>
    obtain ⟨e1, e2⟩ := h3 rfl
    simp only at e1 e2
    subst e1 e2
    simp [RdV.abs]
  | false =>
    simp only [RdV.abs, Bool.false_eq_true, if_false]
    split <;> simp [failR]
theorem abs_rnum (r : RdV) (top : Int) : (rrNum r top).1 = (aNum r.abs top).1 ∧ (rrNum r top).2.abs = (aNum r.abs top).2 := by
  unfold rrNum RdV.abs aNum
  obtain ⟨nl, l, o, bad⟩ := r
  cases bad with
  | true => simp
  | false =>
    by_cases h : l.length < 6
    · simp [h]
    · by_cases h2 : top < (beN (l.take 6) : Int) <;> simp [h, h2]
theorem abs_rb (r : RdV) (top : Int) : (rrB r top).2.1 = (aB r.abs top).1 ∧ (rrB r top).2.2.abs = (aB r.abs top).2 := by
  obtain ⟨h1, h2⟩ := abs_rnum r top
  unfold rrB aB
  rw [← h1, ← h2]
  generalize rrNum r top = p at *
  obtain ⟨n, nl, l, o, bad⟩ := p
  cases bad with
  | true => simp [RdV.abs]
  | false =>
    simp only [RdV.abs, Bool.false_eq_true, if_false, false_or]
    split <;> simp
theorem abs_act : ∀ (n : Nat) (r : RdV) (l : List DoV), (actLoop n r l).1 = (aAct 256 n r.abs l).1 ∧ (actLoop n r l).2.abs = (aAct 256 n r.abs l).2
  | 0, r, l => by simp [actLoop, aAct]
  | n + 1, r, l => by
    rw [actLoop, aAct]
    obtain ⟨a1, a2, _⟩ := abs_num r 11
    obtain ⟨b1, b2, _⟩ := abs_num (rdNum r 11).2 999
    obtain ⟨c1, c2⟩ := abs_b (rdNum (rdNum r 11).2 999).2 256
    have ih := abs_act n (rdB (rdNum (rdNum r 11).2 999).2 256).2.2 (l ++ [⟨(rdNum r 11).1, (rdNum (rdNum r 11).2 999).1, strOf (rdB (rdNum (rdNum r 11).2 999).2 256).2.1⟩])
    rw [c2, b2, a2] at ih
    rw [c1, b2, a2, b1, a2, a1] at ih
    rw [c1, b2, a2, b1, a2, a1]
    exact ih
theorem end_abs (r : RdV) : (!r.bad && r.l.isEmpty) = decide (r.abs = some []) := by
  obtain ⟨nl, l, o, bad⟩ := r
  cases bad <;> cases l <;> simp [RdV.abs]
theorem actLoop_ok : ∀ (n : Nat) (r : RdV) (l : List DoV), r.ok → (actLoop n r l).2.ok ∧ (actLoop n r l).2.l.length ≤ r.l.length ∧ (actLoop n r l).1.length = l.length + n
  | 0, r, l, h => ⟨h, Nat.le_refl _, rfl⟩
  | n + 1, r, l, h => by
    rw [actLoop]
    obtain ⟨ok1, _, len1⟩ := rdNum_ok (top := 11) h
    obtain ⟨ok2, _, len2⟩ := rdNum_ok (top := 999) ok1
    obtain ⟨ok3, _, len3, _⟩ := rdB_ok (top := 256) ok2
    obtain ⟨h1, h2, h3⟩ := actLoop_ok n _ (l ++ [⟨(rdNum r 11).1, (rdNum (rdNum r 11).2 999).1, strOf (rdB (rdNum (rdNum r 11).2 999).2 256).2.1⟩]) ok3
    refine ⟨h1, by omega, by rw [h3]; simp; omega⟩
theorem aB_len (s : Rd) {top : Int} (h : 0 ≤ top) : (aB s top).1.length ≤ top.toNat := by
  unfold aB
  split
  · exact Nat.zero_le _
  · rename_i l hl
    split
    · exact Nat.zero_le _
    · simp only [List.length_take]
      have : (aNum s top).1 ≤ top := by
        unfold aNum
        cases s with
        | none => exact h
        | some l =>
          simp only
          split
          · exact h
          · simp only; omega
      omega
theorem aAct_texts (T : Int) (hT : 0 ≤ T) : ∀ (n : Nat) (s : Rd) (l : List DoV), (∀ d ∈ l, d.text.size ≤ T.toNat) → ∀ d ∈ (aAct T n s l).1, d.text.size ≤ T.toNat
  | 0, s, l, h => h
  | n + 1, s, l, h => by
    rw [aAct]
    refine aAct_texts T hT n _ _ fun d hd => ?_
    rcases List.mem_append.1 hd with hd | hd
    · exact h d hd
    · simp at hd
      subst hd
      have := aB_len (aNum (aNum s 11).2 999).2 hT
      simpa [strOf, ByteArray.size] using this
theorem aNum_le (s : Rd) {top : Int} (h : 0 ≤ top) : 0 ≤ (aNum s top).1 ∧ (aNum s top).1 ≤ top := by
  unfold aNum
  cases s with
  | none => exact ⟨Int.le_refl _, h⟩
  | some l =>
    simp only
    split
    · exact ⟨Int.le_refl _, h⟩
    · simp only; omega
theorem action_run {b : List UInt8} {nl : Bool} {n : Nat} {o : Ow} {st : St} (hn : n = b.length) (hl : nl = true → b = []) (hr : b.length ≤ roomB) :
    ∃ nl' o' E', callI cfg 47 [.sl nl n (u8s b) o] st = some (.tup [.sl nl' (aAction 256 b).1.length (dosD (aAction 256 b).1) o', .d (.bool (aAction 256 b).2)], ⟨st.H, E'⟩) ∧ (nl' = true → (aAction 256 b).1 = []) := by
  subst hn
  have k0 := read46 (l := b) (nl := nl) (n := b.length) (o := closeO o) (st := ⟨[], []⟩) rfl hl hr
  let r0 : RdV := ⟨nl, b, newO [] b, false⟩
  have ok0 : r0.ok := hl
  have k1 := rnum49 (r := r0) (top := 8) (H := []) (E := newE [] b) ok0
  obtain ⟨ok1, pos1, len1⟩ := rdNum_ok (top := 8) ok0
  have le1 := rdNum_le (r := r0) (top := 8) (by omega)
  obtain ⟨a1, a2, _⟩ := abs_num r0 8
  have e0 : r0.abs = some b := rfl
  rw [e0] at a1 a2
  obtain ⟨N, hN⟩ := Int.eq_ofNat_of_zero_le pos1
  have hc := abs_act N (rdNum r0 8).2 []
  obtain ⟨ok2, len2, cnt⟩ := actLoop_ok N (rdNum r0 8).2 [] ok1
  have hl0 : r0.l.length = b.length := rfl
  simp only [List.length_nil, Nat.zero_add] at cnt
  obtain ⟨nl', o', E', fr, hloop, hnl'⟩ := loop47 N N 0 (rdNum r0 8).2 [] (actLoop N (rdNum r0 8).2 []).1 (actLoop N (rdNum r0 8).2 []).2 true .ex (newE [] b) 0 0 (by omega) rfl rfl rfl ok1 (by omega) own_ex (by simp; omega) (by omega)
  have hN2 : N = (aNum (some b) 8).1.toNat := by rw [← a1, hN]; rfl
  have hL : (actLoop N (rdNum r0 8).2 []).1 = (aAction 256 b).1 := by rw [hc.1, a2, hN2]; rfl
  have hE : decide ((actLoop N (rdNum r0 8).2 []).2.abs = some []) = decide ((aAct 256 (aNum (some b) 8).1.toNat (aNum (some b) 8).2 []).2 = some []) := by rw [hc.2, a2, hN2]
  have k3 := end50 (r := (actLoop N (rdNum r0 8).2 []).2) (H := []) (E := E')
  rw [end_abs, hE] at k3
  rw [hL] at hloop cnt hnl'
  rw [dosD_nil] at hloop
  have htx : ∀ d ∈ (aAction 256 b).1, d.text.size ≤ roomB := fun d hd => by
    have := aAct_texts 256 (by omega) (aNum (some b) 8).1.toNat (aNum (some b) 8).2 [] (by simp) d hd
    unfold roomB; omega
  have hnlL : nl' = true → (aAction 256 b).1 = [] := fun h => (hnl' h).2
  have k4 := fun st => ok_run (l := (aAction 256 b).1) (nl := nl') (n := (aAction 256 b).1.length) (o := o') (st := st) rfl hnlL (by omega) htx
  obtain ⟨o2, E2, hret⟩ := ret_sl (s := ⟨[.cells (actLoop N (rdNum r0 8).2 []).2.cs], E'⟩) (st := st) (nl := nl') (n := (aAction 256 b).1.length) (cs := dosD (aAction 256 b).1) (o := o')
  refine ⟨nl', o2, E2, ?_, hnlL⟩
  have hres : (aAction 256 b).2 = (decide ((aAct 256 (aNum (some b) 8).1.toNat (aNum (some b) 8).2 []).2 = some []) && okAct (aAction 256 b).1) := rfl
  rw [hres]
  rw [hN] at k1
  generalize (actLoop N (rdNum r0 8).2 []).2 = R at *
  generalize (rdNum r0 8).2 = r1 at *
  generalize decide ((aAct 256 (aNum (some b) 8).1.toNat (aNum (some b) 8).2 []).2 = some []) = e at *
  generalize (aAction 256 b).1 = L at *
  have k1' : callI cfg 49 [.ptr 0 0, .d (.int .i64 8)] ⟨[.cells r0.cs], newE [] b⟩ = some (.d (.int .i64 N), ⟨[.cells r1.cs], newE [] b⟩) := k1
  have k0' : callI cfg 46 [.sl nl b.length (u8s b) (closeO o)] ⟨[], []⟩ = some (.ptr 0 0, ⟨[.cells r0.cs], newE [] b⟩) := by simpa using k0
  cases e <;> simp [c47, k0', k1', hloop, k3, k4, hret]
end Go.Proofs.CfgA
end
section
namespace Go.Proofs.CfgA
open Go Go.Tm Go.Proofs
set_option maxRecDepth 100000
set_option linter.unusedSimpArgs false
def rowLoop : Nat → RdV → List Row → List Row × RdV
  | 0, r, l => (l, r)
  | n + 1, r, l => rowLoop n (rdB r 256).2.2 (l ++ [((rdB r 256).1, (rdB r 256).2.1)])
theorem abs_rows : ∀ (n : Nat) (r : RdV) (l : List Row), (rowLoop n r l).1.map (·.2) = (aRows n r.abs (l.map (·.2))).1 ∧ (rowLoop n r l).2.abs = (aRows n r.abs (l.map (·.2))).2
  | 0, r, l => by simp [rowLoop, aRows]
  | n + 1, r, l => by
    rw [rowLoop, aRows]
    obtain ⟨c1, c2⟩ := abs_b r 256
    have ih := abs_rows n (rdB r 256).2.2 (l ++ [((rdB r 256).1, (rdB r 256).2.1)])
    rw [c2] at ih
    rw [List.map_append, List.map_singleton, c1] at ih
    rw [c1]
    exact ih
theorem rowLoop_ok : ∀ (n : Nat) (r : RdV) (l : List Row), r.ok → (rowLoop n r l).2.ok ∧ (rowLoop n r l).2.l.length ≤ r.l.length ∧ (rowLoop n r l).1.length = l.length + n
  | 0, r, l, h => ⟨h, Nat.le_refl _, rfl⟩
  | n + 1, r, l, h => by
    rw [rowLoop]
    obtain ⟨ok3, _, len3, _⟩ := rdB_ok (top := 256) h
    obtain ⟨h1, h2, h3⟩ := rowLoop_ok n _ (l ++ [((rdB r 256).1, (rdB r 256).2.1)]) ok3
    exact ⟨h1, by omega, by rw [h3]; simp; omega⟩
theorem rowD_eq {nb : Bool} {x : List UInt8} (h : nb = true → x = []) : D.slc nb x.length (u8s x) = rowD (nb, x) := by
  unfold rowD
  cases nb with
  | false => rfl
  | true => rw [h rfl]; rfl
theorem rowsD_one (r : Row) : [rowD r] = rowsD [r] := rfl
theorem loop17 (N : Nat) (x0 x6 x7 : T) (hx0 : x0.lo 1 = true) (hx6 : x6.lo 1 = true) (hx7 : x7.lo 1 = true) : ∀ (m j : Nat) (r : RdV) (l L : List Row) (R : RdV) (nl : Bool) (o : Ow) (E : List Nat) (k : Nat) (i : Int), j + m = N → rowLoop m r l = (L, R) → k = l.length → i = j → r.ok → r.l.length ≤ roomB → Own E nl l.length o → l.length + m ≤ 100000 → N ≤ 1000000 →
    ∃ nl' o' E' fr, runI cfg 17 n17_12 [(0, x0), (5, .ptr 0 0), (6, x6), (7, x7), (8, .sl nl k (rowsD l) o), (18, .d (.int .i64 N)), (19, .d (.int .i64 i))] ⟨[.cells r.cs], E⟩ =
      some (.exit 0, (0, x0) :: (5, .ptr 0 0) :: (6, x6) :: (7, x7) :: (8, .sl nl' L.length (rowsD L) o') :: fr, ⟨[.cells R.cs], E'⟩) ∧ (nl' = true → nl = true ∧ L = l)
  | 0, j, r, l, L, R, nl, o, E, k, i, hj, hL, hk, hi, hr, hb, ho, hlen, hN => by
    simp [rowLoop] at hL
    obtain ⟨rfl, rfl⟩ := hL
    subst hk hi
    have : j = N := by omega
    subst this
    refine ⟨nl, o, E, ?_⟩
    simp [l17_12]
  | m + 1, j, r, l, L, R, nl, o, E, k, i, hj, hL, hk, hi, hr, hb, ho, hlen, hN => by
    subst hk hi
    have hlt : (j : Int) < N := by omega
    obtain ⟨ok3, nil3, len3, len3'⟩ := rdB_ok (top := 256) hr
    have k3 := rbytes48 (r := r) (top := 256) (H := []) (E := E) hr hb
    rw [rowLoop] at hL
    generalize rdB r 256 = p3 at *
    obtain ⟨nb, x, r3⟩ := p3
    simp only at *
    obtain ⟨E2, hE2⟩ := newE_app E x
    have hown : Own (newE E x) nl l.length o := by rw [hE2]; exact own_app ho
    obtain ⟨o2, E3, ha, hown2⟩ := app_own (st := ⟨[.cells r3.cs], newE E x⟩) (n := 1) (b := 24) (k := 1) (cs := rowsD l) (ys := [D.slc nb x.length (u8s x)]) (nl' := false) (o' := .lit) hown (by simp) rfl (by omega) (by unfold roomB; omega)
    obtain ⟨nl', o', E', fr, ih, ih2⟩ := loop17 N x0 x6 x7 hx0 hx6 hx7 m (j + 1) r3 (l ++ [(nb, x)]) L R false o2 E3 (l.length + 1) ((j : Int) + 1) (by omega) hL (by simp) (by omega) ok3 (by omega) (by simpa using hown2) (by simp; omega) hN
    refine ⟨nl', o', E', fr, ?_, fun h => absurd (ih2 h).1 (by simp)⟩
    rw [rowsD_append, ← rowsD_one, ← rowD_eq nil3] at ih
    have hw : IntKind.i64.wrap ((j : Int) + 1) = j + 1 := w64 (by omega) (by omega)
    rw [l17_12]
    simp [hlt, k3, putAt, ha, hw]
    rw [gcT_stay (by simp)]
    simpa using ih

def prnP (l : List DoV) (rows : List (List UInt8)) : List UInt8 := rowB (actB l) ++ sixI rows.length ++ rows.flatMap rowB
theorem prnB_P (l : List DoV) (R : List Row) : prnB l R = prnP l (R.map (·.2)) := by
  unfold prnB prnP rowsB
  rw [List.length_map]
  congr 1
  induction R with
  | nil => rfl
  | cons a R ih => simp [ih]
structure Prs where
  l : List DoV
  rows : List (List UInt8)
  ok : Bool
/-- What is read of a print. -/
def aParse (b : List UInt8) : Prs :=
  let p := aB (some b) 4000
  let a := aAction 256 p.1
  let q := aNum p.2 8
  let t := aRows q.1.toNat q.2 []
  if a.2 = true ∧ t.2 = some [] ∧ prnP a.1 t.1 = b then ⟨a.1, t.1, true⟩ else ⟨[], [], false⟩
theorem aRows_lens : ∀ (n : Nat) (s : Rd) (l : List (List UInt8)), (∀ x ∈ l, x.length ≤ 256) → ∀ x ∈ (aRows n s l).1, x.length ≤ 256
  | 0, s, l, h => h
  | n + 1, s, l, h => by
    rw [aRows]
    refine aRows_lens n _ _ fun d hd => ?_
    rcases List.mem_append.1 hd with hd | hd
    · exact h d hd
    · simp at hd
      subst hd
      exact aB_len s (by omega)
theorem flat_le {α : Type} {f : α → List UInt8} {c : Nat} : ∀ (l : List α), (∀ x ∈ l, (f x).length ≤ c) → (l.flatMap f).length ≤ l.length * c
  | [], _ => by simp
  | a :: l, h => by
    have h1 := h a (by simp)
    have h2 := flat_le l (fun x hx => h x (by simp [hx]))
    simp only [List.flatMap_cons, List.length_append, List.length_cons, Nat.succ_mul]
    omega
end Go.Proofs.CfgA
end
section
namespace Go.Proofs.CfgA
open Go Go.Tm Go.Proofs
set_option maxRecDepth 100000
set_option linter.unusedSimpArgs false
theorem aAct_length (T : Int) : ∀ (n : Nat) (s : Rd) (l : List DoV), (aAct T n s l).1.length = l.length + n
  | 0, s, l => rfl
  | n + 1, s, l => by rw [aAct, aAct_length T n]; simp; omega
theorem aRows_length : ∀ (n : Nat) (s : Rd) (l : List (List UInt8)), (aRows n s l).1.length = l.length + n
  | 0, s, l => rfl
  | n + 1, s, l => by rw [aRows, aRows_length n]; simp; omega
theorem aAction_bd {T : Int} (hT : 0 ≤ T) (b : List UInt8) : (aAction T b).1.length ≤ 8 ∧ ∀ d ∈ (aAction T b).1, d.text.size ≤ T.toNat := by
  obtain ⟨h1, h2⟩ := aNum_le (some b) (top := 8) (by omega)
  constructor
  · show (aAct T _ _ []).1.length ≤ 8
    rw [aAct_length]; simp; omega
  · exact aAct_texts T hT _ _ [] (by simp)
theorem actB_bd {l : List DoV} {T : Nat} (h : l.length ≤ 8) (ht : ∀ d ∈ l, d.text.size ≤ T) : (actB l).length ≤ 6 + 8 * (18 + T) := by
  have h1 := flat_le (f := doB) (c := 18 + T) l (fun d hd => by rw [doB_length]; have := ht d hd; omega)
  have h2 : l.length * (18 + T) ≤ 8 * (18 + T) := Nat.mul_le_mul_right _ h
  simp only [actB, List.length_append, sixI_length, dosB]
  omega
theorem prnP_length (l : List DoV) (rows : List (List UInt8)) : (prnP l rows).length = 12 + (actB l).length + (rows.flatMap rowB).length := by simp [prnP, rowB]; omega
theorem prnP_bd {l : List DoV} {T : Nat} {rows : List (List UInt8)} (h : l.length ≤ 8) (ht : ∀ d ∈ l, d.text.size ≤ T) (hr : rows.length ≤ 9) {c : Nat} (hx : ∀ x ∈ rows, x.length ≤ c) : (prnP l rows).length ≤ 18 + 8 * (18 + T) + 9 * (6 + c) := by
  have h1 := actB_bd h ht
  have h2 := flat_le (f := rowB) (c := 6 + c) rows (fun d hd => by rw [rowB_length]; have := hx d hd; omega)
  have h3 : rows.length * (6 + c) ≤ 9 * (6 + c) := Nat.mul_le_mul_right _ hr
  rw [prnP_length]
  omega
theorem parse_run {b : List UInt8} {nl : Bool} {n : Nat} {o : Ow} {st : St} (hn : n = b.length) (hl : nl = true → b = []) (hr : b.length ≤ roomB) :
    ∃ nl1 o1 nl2 o2 E' R, callI cfg 17 [.sl nl n (u8s b) o] st = some (.tup [.sl nl1 (aParse b).l.length (dosD (aParse b).l) o1, .sl nl2 R.length (rowsD R) o2, .d (.bool (aParse b).ok)], ⟨st.H, E'⟩) ∧
      (nl1 = true → (aParse b).l = []) ∧ (nl2 = true → R = []) ∧ R.map (·.2) = (aParse b).rows := by
  subst hn
  have k0 := read46 (l := b) (nl := nl) (n := b.length) (o := closeO o) (st := ⟨[], []⟩) rfl hl hr
  let r0 : RdV := ⟨nl, b, newO [] b, false⟩
  have ok0 : r0.ok := hl
  have k0' : callI cfg 46 [.sl nl b.length (u8s b) (closeO o)] ⟨[], []⟩ = some (.ptr 0 0, ⟨[.cells r0.cs], newE [] b⟩) := by simpa using k0
  have k1 := rbytes48 (r := r0) (top := 4000) (H := []) (E := newE [] b) ok0 hr
  obtain ⟨ok1, nil1, len1, lenx⟩ := rdB_ok (top := 4000) ok0
  obtain ⟨a1, a2⟩ := abs_b r0 4000
  have e0 : r0.abs = some b := rfl
  have hl0 : r0.l.length = b.length := rfl
  rw [e0] at a1 a2
  obtain ⟨nlA, oA, EA, k2, hnlA⟩ := action_run (b := (rdB r0 4000).2.1) (nl := (rdB r0 4000).1) (n := (rdB r0 4000).2.1.length) (o := newO (newE [] b) (rdB r0 4000).2.1) (st := ⟨[.cells (rdB r0 4000).2.2.cs], newE (newE [] b) (rdB r0 4000).2.1⟩) rfl nil1 (by omega)
  have k3 := rnum49 (r := (rdB r0 4000).2.2) (top := 8) (H := []) (E := EA) ok1
  obtain ⟨ok2, pos2, len2⟩ := rdNum_ok (top := 8) ok1
  have le2 := rdNum_le (r := (rdB r0 4000).2.2) (top := 8) (by omega)
  obtain ⟨b1, b2, _⟩ := abs_num (rdB r0 4000).2.2 8
  rw [a2] at b1 b2
  obtain ⟨N, hN⟩ := Int.eq_ofNat_of_zero_le pos2
  obtain ⟨c1, c2⟩ := abs_rows N (rdNum (rdB r0 4000).2.2 8).2 []
  obtain ⟨ok3, len3, cnt⟩ := rowLoop_ok N (rdNum (rdB r0 4000).2.2 8).2 [] ok2
  simp only [List.length_nil, Nat.zero_add] at cnt
  rw [b2] at c1 c2
  have hN2 : N = (aNum (aB (some b) 4000).2 8).1.toNat := by rw [← b1, hN]; rfl
  rw [hN2] at c1 c2
  rw [← hN2] at c1 c2
  obtain ⟨nl', o', E', fr, hloop, hnl'⟩ := loop17 N (.sl nl b.length (u8s b) (closeO o)) (.sl nlA (aAction 256 (rdB r0 4000).2.1).1.length (dosD (aAction 256 (rdB r0 4000).2.1).1) oA) (.d (.bool (aAction 256 (rdB r0 4000).2.1).2)) rfl rfl rfl N 0 (rdNum (rdB r0 4000).2.2 8).2 [] (rowLoop N (rdNum (rdB r0 4000).2.2 8).2 []).1 (rowLoop N (rdNum (rdB r0 4000).2.2 8).2 []).2 true .ex EA 0 0 (by omega) rfl rfl rfl ok2 (by omega) own_ex (by simp; omega) (by omega)
  rw [rowsD_nil] at hloop
  obtain ⟨bd1, bd2⟩ := aAction_bd (T := 256) (by omega) (rdB r0 4000).2.1
  have hlens : ∀ x ∈ (rowLoop N (rdNum (rdB r0 4000).2.2 8).2 []).1.map (·.2), x.length ≤ 256 := by
    rw [c1]; exact aRows_lens _ _ _ (by simp)
  have k4 := end50 (r := (rowLoop N (rdNum (rdB r0 4000).2.2 8).2 []).2) (H := []) (E := E')
  rw [end_abs, c2] at k4
  have hpar : aParse b = if (aAction 256 (rdB r0 4000).2.1).2 = true ∧ (aRows N (aNum (aB (some b) 4000).2 8).2 (List.map (·.2) ([] : List Row))).2 = some [] ∧ prnP (aAction 256 (rdB r0 4000).2.1).1 ((rowLoop N (rdNum (rdB r0 4000).2.2 8).2 []).1.map (·.2)) = b then ⟨(aAction 256 (rdB r0 4000).2.1).1, (rowLoop N (rdNum (rdB r0 4000).2.2 8).2 []).1.map (·.2), true⟩ else ⟨[], [], false⟩ := by
    rw [c1, a1, hN2]; rfl
  rw [hpar]
  rw [hN] at k3
  generalize (aRows N (aNum (aB (some b) 4000).2 8).2 (List.map (·.2) ([] : List Row))).2 = S at *
  generalize (rowLoop N (rdNum (rdB r0 4000).2.2 8).2 []).2 = R3 at *
  generalize (rowLoop N (rdNum (rdB r0 4000).2.2 8).2 []).1 = R at *
  generalize (rdNum (rdB r0 4000).2.2 8).2 = r2 at *
  generalize (rdB r0 4000).2.2 = r1 at *
  generalize (aAction 256 (rdB r0 4000).2.1).1 = L at *
  generalize (aAction 256 (rdB r0 4000).2.1).2 = okA at *
  have hnlR : nl' = true → R = [] := fun h => (hnl' h).2
  have hbd := prnP_bd (T := 256) (c := 256) (rows := R.map (·.2)) bd1 (fun d hd => by have := bd2 d hd; omega) (by simp; omega) hlens
  have hpl : (prnB L R).length ≤ roomB := by rw [prnB_P]; unfold roomB; omega
  cases okA with
  | false =>
    refine ⟨true, .ex, true, .ex, st.E, [], ?_, by simp, by simp, by simp⟩
    simp [c17, k0', k1, k2, k3, hloop]
  | true =>
    by_cases hS : S = some []
    · subst hS
      simp only [decide_true] at k4
      obtain ⟨oP, EP, k5⟩ := print_run (l := L) (ins := R) (nl := nlA) (nl2 := nl') (n := L.length) (n2 := R.length) (o := oA) (o2 := o') (st := ⟨[.cells R3.cs], E'⟩) rfl hnlA (by omega) rfl hnlR (by omega) hpl
      have k6 := fun st => equal_run (x := prnB L R) (y := b) (nl := false) (nl2 := nl) (m := (prnB L R).length) (k := b.length) (o := oP) (o2 := closeO o) (st := st) rfl rfl
      rw [prnB_P] at k5 k6
      by_cases hP : prnP L (R.map (·.2)) = b
      · obtain ⟨o1, E1, hret⟩ := ret_sl (s := ⟨[.cells R3.cs], EP⟩) (st := st) (nl := nlA) (n := L.length) (cs := dosD L) (o := oA)
        rw [hP] at k5 k6
        refine ⟨nlA, o1, nl', closeO o', E1, R, ?_, by simpa [hP] using hnlA, hnlR, by simp [hP]⟩
        simp [c17, k0', k1, k2, k3, hloop, k4, k5, k6, hP, hret]
      · refine ⟨true, .ex, true, .ex, st.E, [], ?_, by simp [hP], by simp, by simp [hP]⟩
        simp [c17, k0', k1, k2, k3, hloop, k4, k5, k6, hP]
    · refine ⟨true, .ex, true, .ex, st.E, [], ?_, by simp [hS], by simp, by simp [hS]⟩
      simp [hS] at k4
      simp [c17, k0', k1, k2, k3, hloop, k4, hS]
end Go.Proofs.CfgA
end
section
namespace Go.Proofs.CfgA
open Go Go.Tm Go.Proofs
set_option maxRecDepth 100000
set_option linter.unusedSimpArgs false
theorem pure79 : cfg.pure 79 = true := by kernel_rfl
def u8t (l : List UInt8) : List T := l.map fun b => .d (.int .u8 b.toNat)
@[simp] theorem u8t_length (l : List UInt8) : (u8t l).length = l.length := by simp [u8t]
@[simp] theorem u8t_get (l : List UInt8) (i : Nat) : (u8t l)[i]? = (l[i]?).map fun b => .d (.int .u8 b.toNat) := by simp [u8t]
@[simp] theorem u8t_getElem (l : List UInt8) (i : Nat) (h : i < (u8t l).length) : (u8t l)[i] = .d (.int .u8 (l[i]'(by simpa using h)).toNat) := by simp [u8t]
theorem u8s_toT (l : List UInt8) : (u8s l).map D.toT = u8t l := by simp [u8s, u8t, D.toT]
theorem u8s_flat (l : List UInt8) : (u8s l).all D.isFlat = true := by simp [u8s, D.isFlat]
theorem u8t_set (l : List UInt8) (i : Nat) (b : UInt8) : (u8t l).set i (.d (.int .u8 b.toNat)) = u8t (l.set i b) := by simp [u8t]
theorem u8t_setw (l : List UInt8) (i : Nat) (y : Int) : (u8t l).set i (.d (.int .u8 (IntKind.u8.wrap y))) = u8t (l.set i (ub y)) := by rw [← u8t_set, wrap8, ub_nat]
theorem u8t_toDs : ∀ (l : List UInt8), T.toDs (u8t l) = some (u8s l)
  | [] => rfl
  | b :: l => by
    have := u8t_toDs l
    simp only [u8t, u8s, List.map_cons] at this ⊢
    simp [this]
theorem u8t_lo (l : List UInt8) (m : Nat) : (u8t l).all (T.lo m) = true := by simp [u8t]
@[simp] theorem u8t_lo' (l : List UInt8) (m : Nat) (x : T) (h : x ∈ u8t l) : T.lo m x = true := List.all_eq_true.1 (u8t_lo l m) x h
theorem tw_loc {E : List Nat} {H H' : List Box} {l : List UInt8} {n : Nat} : twV true ⟨H, E⟩ (.sl false n (u8s l) (.tok E.length), ⟨H', E ++ [n]⟩) = .loc H'.length 0 n n ∧ twS true ⟨H, E⟩ (.sl false n (u8s l) (.tok E.length), ⟨H', E ++ [n]⟩) = ⟨H' ++ [.cells (u8t l)], E⟩ := by
  unfold twV twS thawT
  simp [u8s_flat, u8s_toT]
theorem tw_ex {b : Bool} {st st' : St} {nl : Bool} {n : Nat} {cs : List D} : twV b st (.sl nl n cs .ex, st') = .sl nl n cs .ex ∧ twS b st (.sl nl n cs .ex, st') = st' := by
  cases b <;> cases nl <;> exact ⟨rfl, rfl⟩

/-! ### letters turned -/
def turnC (a z by_ : Int) (c : UInt8) : UInt8 := if a ≤ (c.toNat : Int) ∧ (c.toNat : Int) ≤ z then ub (c.toNat + by_) else c
theorem loop101 (a z by_ : Int) (hby : -1000 ≤ by_ ∧ by_ ≤ 1000) (E : List Nat) (n : Nat) (hn : n ≤ roomB) : ∀ (suf pre : List UInt8) (i : Int), n = pre.length + suf.length → i = pre.length →
    ∃ fr, runI cfg 101 n101_8 [(1, .d (.int .u8 a)), (2, .d (.int .u8 z)), (3, .d (.int .i64 by_)), (9, .loc 0 0 n n), (14, .loc 0 0 n n), (15, .d (.int .i64 n)), (16, .d (.int .i64 i))] ⟨[.cells (u8t (pre ++ suf))], E⟩ =
      some (.exit 0, (1, .d (.int .u8 a)) :: (2, .d (.int .u8 z)) :: (3, .d (.int .i64 by_)) :: (9, .loc 0 0 n n) :: fr, ⟨[.cells (u8t (pre ++ suf.map (turnC a z by_)))], E⟩)
  | [], pre, i, h, hi => by
    subst hi
    simp at h
    simp [l101_8, h]
  | c :: suf, pre, i, h, hi => by
    subst hi
    simp at h
    have hlt : (pre.length : Int) < n := by omega
    have hix := ixV_loc (n := 1) (m := n) (id := 0) (off := 0) (c := n) (k := .i64) (i := (pre.length : Int)) (by omega) hlt
    simp only [Int.toNat_natCast, Nat.mul_one, Nat.zero_add] at hix
    have hg : (pre ++ c :: suf)[pre.length]? = some c := by simp
    have hw : IntKind.i64.wrap ((pre.length : Int) + 1) = pre.length + 1 := by unfold roomB at hn; exact w64 (by omega) (by omega)
    have hc := c.toNat_lt
    have hw2 : IntKind.i64.wrap ((c.toNat : Int)) = c.toNat := w64 (by omega) (by omega)
    have hw3 : IntKind.i64.wrap ((c.toNat : Int) + by_) = c.toNat + by_ := w64 (by omega) (by omega)
    obtain ⟨fr, ih⟩ := loop101 a z by_ hby E n hn suf (pre ++ [turnC a z by_ c]) ((pre.length : Int) + 1) (by simp; omega) (by simp)
    refine ⟨fr, ?_⟩
    have hset : ∀ b, (pre ++ c :: suf).set pre.length b = pre ++ b :: suf := fun b => by simp
    rw [l101_8]
    by_cases h1 : a ≤ (c.toNat : Int)
    · by_cases h2 : (c.toNat : Int) ≤ z
      · have ht : turnC a z by_ c = ub (c.toNat + by_) := by simp [turnC, h1, h2]
        have hpo := putAt_one (l := u8t (pre ++ c :: suf)) (off := pre.length) (x := .d (.int .u8 (IntKind.u8.wrap ((c.toNat : Int) + by_)))) (by simp)
        rw [u8t_setw, hset] at hpo
        simp [hlt, hix, h1, h2, hw2, hw3, hw, hpo]
        rw [gcT_stay (by simp)]
        rw [ht] at ih
        simpa [ht] using ih
      · have ht : turnC a z by_ c = c := by simp [turnC, h2]
        simp [hlt, hix, h1, h2, hw]
        rw [gcT_stay (by simp)]
        rw [ht] at ih
        simpa [ht] using ih
    · have ht : turnC a z by_ c = c := by simp [turnC, h1]
      simp [hlt, hix, h1, hw]
      rw [gcT_stay (by simp)]
      rw [ht] at ih
      simpa [ht] using ih
theorem turned_run {b : List UInt8} {nl : Bool} {n : Nat} {o : Ow} {st : St} {a z by_ : Int} (hby : -1000 ≤ by_ ∧ by_ ≤ 1000) (hn : n = b.length) (hl : nl = true → b = []) (hr : b.length ≤ roomB) :
    ∃ o', callI cfg 101 [.sl nl n (u8s b) o, .d (.int .u8 a), .d (.int .u8 z), .d (.int .i64 by_)] st = some (.sl nl n (u8s (b.map (turnC a z by_))) o', st) := by
  subst hn
  have hc := clone_run (l := b) (nl := nl) (n := b.length) (o := closeO o) (st := ⟨[], []⟩) rfl hl hr
  by_cases hb : b = []
  · subst hb
    simp at hc
    refine ⟨.ex, ?_⟩
    simp [c101, hc, pure79, tw_ex, l101_8]
  · have hnl : nl = false := by cases nl with | false => rfl | true => exact absurd (hl rfl) hb
    subst hnl
    simp [hb] at hc
    obtain ⟨fr, h⟩ := loop101 a z by_ hby [] b.length hr b [] 0 (by simp) rfl
    have ht := tw_loc (E := []) (H := []) (H' := []) (l := b) (n := b.length)
    simp at ht h
    refine ⟨.ro, ?_⟩
    simp [c101, hc, pure79, ht, h, u8t_toDs]
end Go.Proofs.CfgA
end
section
namespace Go.Proofs.CfgA
open Go Go.Tm Go.Proofs
set_option maxRecDepth 100000
set_option linter.unusedSimpArgs false
/-! ### the other way round -/
theorem loop102 (h0 : Box) (E : List Nat) (n : Nat) (hn : n ≤ roomB) : ∀ (k : Nat) (m a c : List UInt8) (i j : Int), m.length ≤ k → n = a.length + m.length + c.length → a.length = c.length → i = a.length → j = (n : Int) - 1 - a.length →
    ∃ fr, runI cfg 102 n102_3 [(0, .loc 1 0 n n), (2, .d (.int .i64 i)), (3, .d (.int .i64 j))] ⟨[h0, .cells (u8t (a ++ m ++ c))], E⟩ =
      some (.exit 0, fr, ⟨[h0, .cells (u8t (a ++ m.reverse ++ c))], E⟩) := by
  intro k
  induction k with
  | zero =>
    intro m a c i j hk h1 h2 hi hj
    have hm : m = [] := List.length_eq_zero_iff.1 (by omega)
    subst hm hi hj
    have : ¬ ((a.length : Int) < n - 1 - a.length) := by simp at h1; omega
    simp [l102_3, this]
  | succ k ih =>
    intro m a c i j hk h1 h2 hi hj
    match m, hk, h1 with
    | [], hk, h1 =>
      subst hi hj
      have : ¬ ((a.length : Int) < n - 1 - a.length) := by simp at h1; omega
      simp [l102_3, this]
    | [x], hk, h1 =>
      subst hi hj
      have : ¬ ((a.length : Int) < n - 1 - a.length) := by simp at h1; omega
      simp [l102_3, this]
    | x :: y0 :: m0, hk, h1 =>
      obtain ⟨m', y, hm'⟩ : ∃ m' y, y0 :: m0 = m' ++ [y] := ⟨(y0 :: m0).dropLast, (y0 :: m0).getLast (by simp), (List.dropLast_concat_getLast (by simp)).symm⟩
      have hlen : m'.length + 1 = m0.length + 1 := by have := congrArg List.length hm'; simp at this; omega
      rw [hm']
      rw [hm'] at h1 hk
      simp only [List.length_cons, List.length_append, List.length_nil] at h1 hk
      subst hi hj
      unfold roomB at hn
      have hlt : (a.length : Int) < n - 1 - a.length := by omega
      have hj : (n : Int) - 1 - a.length = ((a.length + 1 + m'.length : Nat) : Int) := by omega
      have hix := ixV_loc (n := 1) (m := n) (id := 1) (off := 0) (c := n) (k := .i64) (i := (a.length : Int)) (by omega) (by omega)
      simp only [Int.toNat_natCast, Nat.mul_one, Nat.zero_add] at hix
      have hjx := ixV_loc (n := 1) (m := n) (id := 1) (off := 0) (c := n) (k := .i64) (i := ((a.length + 1 + m'.length : Nat) : Int)) (by omega) (by omega)
      simp only [Int.toNat_natCast, Nat.mul_one, Nat.zero_add] at hjx
      have e1 : a ++ x :: (m' ++ [y]) ++ c = a ++ (x :: (m' ++ (y :: c))) := by simp
      have g1 : (a ++ (x :: (m' ++ (y :: c))))[a.length]? = some x := by simp
      have g2 : (a ++ (x :: (m' ++ (y :: c))))[a.length + 1 + m'.length]? = some y := by
        rw [List.getElem?_append_right (by omega), show a.length + 1 + m'.length - a.length = m'.length + 1 by omega, List.getElem?_cons_succ, List.getElem?_append_right (by omega)]; simp
      have s1 : (a ++ (x :: (m' ++ (y :: c)))).set a.length y = a ++ (y :: (m' ++ (y :: c))) := by simp
      have s2 : (a ++ (y :: (m' ++ (y :: c)))).set (a.length + 1 + m'.length) x = a ++ (y :: (m' ++ (x :: c))) := by
        rw [List.set_append_right _ _ (by omega), show a.length + 1 + m'.length - a.length = m'.length + 1 by omega, List.set_cons_succ, List.set_append_right _ _ (by omega)]; simp
      have p1 := putAt_one (l := u8t (a ++ (x :: (m' ++ (y :: c))))) (off := a.length) (x := .d (.int .u8 y.toNat)) (by simp)
      have p2 := putAt_one (l := u8t (a ++ (y :: (m' ++ (y :: c))))) (off := a.length + 1 + m'.length) (x := .d (.int .u8 x.toNat)) (by simp; omega)
      rw [u8t_set, s1] at p1
      rw [u8t_set, s2] at p2
      have w1 : IntKind.i64.wrap ((a.length : Int) + 1) = a.length + 1 := w64 (by omega) (by omega)
      have w2 : IntKind.i64.wrap (((a.length + 1 + m'.length : Nat) : Int) - 1) = ((a.length + 1 + m'.length : Nat) : Int) - 1 := w64 (by omega) (by omega)
      obtain ⟨fr, ih'⟩ := ih m' (a ++ [y]) (x :: c) ((a.length : Int) + 1) (((a.length + 1 + m'.length : Nat) : Int) - 1) (by omega) (by simp; omega) (by simp; omega) (by simp) (by simp; omega)
      have e2 : a ++ [y] ++ m' ++ x :: c = a ++ (y :: (m' ++ (x :: c))) := by simp
      have e3 : a ++ [y] ++ m'.reverse ++ x :: c = a ++ (x :: (m' ++ [y])).reverse ++ c := by simp
      rw [e2, e3] at ih'
      refine ⟨fr, ?_⟩
      rw [e1, l102_3]
      rw [hj] at hlt ⊢
      generalize (x :: (m' ++ [y])).reverse = RV at *
      clear ih hm' e1 e2 e3 s1 s2 h1 hk hj
      generalize a.length + 1 + m'.length = jn at *
      have hlt' : (a.length : Int) < (jn : Int) := hlt
      simp [hlt', hix, hjx, g1, g2, p1, p2, w1, w2]
      rw [gcT_stay (by simp)]
      simpa using ih'
end Go.Proofs.CfgA
end
section
namespace Go.Proofs.CfgA
open Go Go.Tm Go.Proofs
set_option maxRecDepth 100000
set_option linter.unusedSimpArgs false
theorem app_str {st : St} {m : Nat} {nl : Bool} {cs : List D} {o : Ow} {s : ByteArray} (h : Own st.E nl m o) (hc : cs.length = m) (hr : m + s.size ≤ roomB) :
    ∃ nl2 o2 E2, appV 1 1 st (.sl nl m cs o) (.d (.string s)) = some (.sl nl2 (m + s.size) (cs ++ u8s s.data.toList) o2, E2) ∧ Own E2 nl2 (m + s.size) o2 ∧ (nl2 = true → nl = true ∧ s.size = 0) := by
  by_cases hs : s.size = 0
  · have he : s.data.toList = [] := by
      apply List.length_eq_zero_iff.1; simpa using hs
    refine ⟨nl, o, st.E, ?_, by rw [hs]; exact h, fun hn => ⟨hn, hs⟩⟩
    rw [appV_none (n := 1) (ys := []) (by omega) (by rw [tailOf_str, hs, bytesD_eq, he]; rfl)]
    simp [hs, he]
  · have hp : 0 < s.size := by omega
    rcases h with rfl | rfl | ⟨j, rfl, h2, rfl, h4⟩
    · exact ⟨_, _, _, appV_ex (n := 1) (ys := u8s s.data.toList) (by omega) (by rw [tailOf_str, bytesD_eq]) hp (by omega), own_tok (by omega), fun h => by simp at h⟩
    · exact ⟨_, _, _, appV_lit (n := 1) (ys := u8s s.data.toList) (by omega) (by rw [tailOf_str, bytesD_eq]) hp (by omega), own_tok (by omega), fun h => by simp at h⟩
    · refine ⟨_, _, _, appV_tok (n := 1) (ys := u8s s.data.toList) (by omega) (by rw [tailOf_str, bytesD_eq]) hp (by omega) h2 (.inl h4), .inr (.inr ⟨j, rfl, ?_, rfl, by omega⟩), fun h => by simp at h⟩
      rw [List.getElem?_set_self (List.getElem?_eq_some_iff.1 h2).1]
def joinF : Bool → List UInt8 → List UInt8 → List UInt8
  | _, _, [] => []
  | true, s, c :: l => c :: joinF false s l
  | false, s, c :: l => s ++ c :: joinF false s l
theorem u8s_one (c : UInt8) : [D.flat (.int .u8 c.toNat)] = u8s [c] := rfl
theorem loop104 (b : List UInt8) (s : ByteArray) (nl2 : Bool) (o2 : Ow) (hnl : nl2 = true → b = []) (hm : b.length ≤ 1000000) (H : List Box) : ∀ (suf pre a R : List UInt8) (m k : Nat) (i : Int) (nl : Bool) (o : Ow) (E : List Nat), b = pre ++ suf → m = a.length → R = a ++ joinF pre.isEmpty s.data.toList suf → k = R.length → i = pre.length → R.length ≤ roomB → Own E nl m o → (nl = true → a = []) →
    ∃ nl' o' E' fr, runI cfg 104 n104_8 [(1, .d (.string s)), (5, .sl nl m (u8s a) o), (8, .sl nl2 b.length (u8s b) o2), (9, .d (.int .i64 b.length)), (10, .d (.int .i64 i))] ⟨H, E⟩ =
      some (.exit 0, (1, .d (.string s)) :: (5, .sl nl' k (u8s R) o') :: fr, ⟨H, E'⟩) ∧ (nl' = true → R = [])
  | [], pre, a, R, m, k, i, nl, o, E, hl, h1, h2, h3, h4, hr, ho, hna => by
    simp [joinF] at h2
    subst h1 h2 h3 h4
    refine ⟨nl, o, E, ?_⟩
    simp [l104_8, hl]
    exact hna
  | c :: suf, pre, a, R, m, k, i, nl, o, E, hl, h1, h2, h3, h4, hr, ho, hna => by
    subst h1 h3 h4
    have hi : pre.length < b.length := by rw [hl]; simp
    have hi' : (pre.length : Int) < b.length := by omega
    have hg : b[pre.length]? = some c := by simp [hl]
    have hg2 : b[pre.length] = c := by simp [hl]
    have hnl' : nl2 = false := by cases nl2 with | false => rfl | true => exact absurd (hnl rfl) (by rw [hl]; simp)
    subst hnl'
    have hix := ixV_sl (n := 1) (m := b.length) (cs := u8s b) (o := o2) (k := .i64) (i := (pre.length : Int)) (by omega) hi'
    simp only [Int.toNat_natCast, Nat.mul_one] at hix
    have hw : IntKind.i64.wrap ((pre.length : Int) + 1) = pre.length + 1 := w64 (by omega) (by omega)
    have hemp : (pre ++ [c]).isEmpty = false := by simp
    cases pre with
    | nil =>
      simp only [List.isEmpty_nil, joinF] at h2
      have hrl := hr
      rw [h2] at hrl
      simp only [List.length_append, List.length_cons] at hrl
      obtain ⟨o3, E3, ha, hown⟩ := app_own (st := ⟨H, E⟩) (n := 1) (b := 1) (k := 1) (cs := u8s a) (ys := [D.flat (.int .u8 c.toNat)]) (nl' := false) (o' := .lit) ho (by simp) rfl (by omega) (by omega)
      obtain ⟨nl', o', E', fr, ih, ihn⟩ := loop104 b s false o2 hnl hm H suf [c] (a ++ [c]) R (a.length + 1) R.length 1 false o3 E3 (by simp [hl]) (by simp) (by rw [h2]; simp) rfl (by simp) hr hown (by simp)
      refine ⟨nl', o', E', fr, ?_, ihn⟩
      rw [u8s_append, ← u8s_one] at ih
      simp at hix hg hg2 hw hi'
      rw [l104_8]
      simp [hi', hix, hg, hg2, putAt, ha, hw]
      rw [gcT_stay (by simp)]
      simpa using ih
    | cons p0 pre0 =>
      simp only [List.isEmpty_cons, joinF] at h2
      have hrl := hr
      rw [h2] at hrl
      simp only [List.length_append, List.length_cons] at hrl
      have hsz : s.data.toList.length = s.size := by simp
      obtain ⟨nl1, o1, E1, hs1, hown1, hn1⟩ := app_str (st := ⟨H, E⟩) (m := a.length) (cs := u8s a) (s := s) ho (by simp) (by omega)
      obtain ⟨o3, E3, ha, hown⟩ := app_own (st := ⟨H, E1⟩) (n := 1) (b := 1) (k := 1) (cs := u8s a ++ u8s s.data.toList) (ys := [D.flat (.int .u8 c.toNat)]) (nl' := false) (o' := .lit) hown1 (by simp) rfl (by omega) (by omega)
      obtain ⟨nl', o', E', fr, ih, ihn⟩ := loop104 b s false o2 hnl hm H suf (p0 :: pre0 ++ [c]) (a ++ s.data.toList ++ [c]) R (a.length + s.size + 1) R.length (((p0 :: pre0).length : Int) + 1) false o3 E3 (by simp [hl]) (by simp; omega) (by rw [h2]; simp) rfl (by simp) hr hown (by simp)
      refine ⟨nl', o', E', fr, ?_, ihn⟩
      rw [u8s_append, u8s_append, ← u8s_one] at ih
      have hpos : 0 < (p0 :: pre0).length := by simp
      rw [l104_8]
      generalize ((p0 :: pre0).length) = pl at *
      simp [hi', hix, hg, hg2, putAt, hs1, ha, hw, hpos]
      rw [gcT_stay (by simp)]
      simpa using ih
theorem joined_run {b : List UInt8} {s : ByteArray} {nl : Bool} {n : Nat} {o : Ow} {st : St} (hn : n = b.length) (hl : nl = true → b = []) (hb : b.length ≤ 1000000) (hr : (joinF true s.data.toList b).length ≤ roomB) :
    ∃ nl' o' E', callI cfg 104 [.sl nl n (u8s b) o, .d (.string s)] st = some (.sl nl' (joinF true s.data.toList b).length (u8s (joinF true s.data.toList b)) o', ⟨st.H, E'⟩) ∧ (nl' = true → joinF true s.data.toList b = []) := by
  subst hn
  obtain ⟨nl', o', E', fr, h, hn⟩ := loop104 b s nl (closeO o) hl hb [] b [] [] (joinF true s.data.toList b) 0 _ 0 true .ex [] rfl rfl rfl rfl rfl hr own_ex (by simp)
  obtain ⟨o2, E2, hret⟩ := ret_sl (s := ⟨[], E'⟩) (st := st) (nl := nl') (n := (joinF true s.data.toList b).length) (cs := u8s (joinF true s.data.toList b)) (o := o')
  refine ⟨nl', o2, E2, ?_, hn⟩
  rw [u8s_nil] at h
  simp [c104, h, hret]
/-! ### the library's -/
theorem byteD_byteT (c : UInt8) : byteD (byteT c) = some c := by
  have : (c.toNat : Int) < 256 := by have := c.toNat_lt; omega
  simp [byteD, byteT, this]
theorem u8s_map (l : List UInt8) : u8s l = l.map byteT := rfl
theorem bytesL_u8s : ∀ (l : List UInt8), bytesL (u8s l) = some l
  | [] => rfl
  | c :: l => by
    have := bytesL_u8s l
    rw [u8s_map] at this ⊢
    simp [bytesL, byteD_byteT, this]
theorem parts_rows : ∀ (l : List Row), partsL (rowsD l) = some (l.map (·.2))
  | [] => rfl
  | r :: l => by
    have := parts_rows l
    simp only [rowsD, List.map_cons, rowD] at this ⊢
    simp [partsL, bytesL_u8s, this]
theorem prim100 : cfg.prim 100 = some joinP := by kernel_rfl
theorem prim112 : cfg.prim 112 = some growP := by kernel_rfl
theorem join_run {l : List Row} {nl : Bool} {n : Nat} {o : Ow} {st : St} (hn : l.length = n) (hb : n ≤ roomB) (hc : (l.flatMap (·.2)).length ≤ roomB) : ∃ nl', callI cfg 100 [.sl nl n (rowsD l) o, .sl true 0 [] .ex] st = some (.sl nl' (l.flatMap (·.2)).length (u8s (l.flatMap (·.2))) .ro, st) ∧ (nl' = true → l.flatMap (·.2) = []) := by
  rw [callI_prim prim100]
  rw [List.flatMap_def] at *
  refine ⟨oneE (l.map (·.2)), ?_, ?_⟩
  · have hc' : (l.map (·.2)).flatten.length ≤ roomB := hc
    have hj : joinP [.sl nl n (rowsD l) (closeO o), .sl true 0 [] .ex] = some (.sl (oneE (l.map (·.2))) (l.map (·.2)).flatten.length ((l.map (·.2)).flatten.map byteT) .ro, ⟨[], []⟩) := by
      simp only [joinP, parts_rows, List.length_map, hn, hb, hc', and_self, if_true]
    have hcl : closeAll [.sl nl n (rowsD l) o, .sl true 0 [] .ex] = some [.sl nl n (rowsD l) (closeO o), .sl true 0 [] .ex] := by simp
    rw [hcl]
    simp only [hj]
    rfl
  · generalize l.map (·.2) = ls
    intro h
    unfold oneE at h
    split at h
    · rfl
    · simp at h
theorem grow_nil {n : Nat} {st : St} (h : n = 0) : callI cfg 112 [.sl true 0 [] .ex, .d (.int .i64 n)] st = some (.sl true 0 [] .ro, st) := by
  subst h
  rw [callI_prim prim112]
  simp [closeAll, closeT, closeV, growP, retV, ret1]
theorem grow_run {n : Nat} {st : St} (h : 0 < n) (hb : n ≤ roomB) : callI cfg 112 [.sl true 0 [] .ex, .d (.int .i64 n)] st = some (.sl false 0 [] (.tok st.E.length), ⟨st.H, st.E ++ [0]⟩) := by
  rw [callI_prim prim112]
  have h1 : ¬ (n : Int) = 0 := by omega
  have h2 : 0 < (n : Int) := by omega
  have h3 : (n : Int) ≤ roomB := by omega
  have hg : growP [.sl true 0 [] .ex, .d (.int .i64 n)] = some (.sl false 0 [] (.tok 0), ⟨[], [0]⟩) := by
    simp only [growP, h1, h2, h3, and_self, if_true, if_false]
  have hcl : closeAll [.sl true 0 [] .ex, .d (.int .i64 n)] = some [.sl true 0 [] .ex, .d (.int .i64 n)] := rfl
  rw [hcl]
  simp only [hg]
  rfl
theorem twice_run {b : List UInt8} {nl : Bool} {st : St} (hl : nl = true → b = []) (hb : 2 * b.length ≤ 1000000) : ∃ nl' o' E', callI cfg 103 [.sl false 2 [.slc nl b.length (u8s b), .slc nl b.length (u8s b)] .lit] st = some (.sl nl' (b ++ b).length (u8s (b ++ b)) o', ⟨st.H, E'⟩) ∧ (nl' = true → b ++ b = []) := by
  by_cases h0 : b = []
  · subst h0
    refine ⟨true, .ro, st.E, ?_, by simp⟩
    have hix0 := ixV_sl (n := 1) (m := 2) (cs := [.slc nl 0 [], .slc nl 0 []]) (o := .ex) (k := .i64) (i := 0) (by omega) (by omega)
    have hix1 := ixV_sl (n := 1) (m := 2) (cs := [.slc nl 0 [], .slc nl 0 []]) (o := .ex) (k := .i64) (i := 1) (by omega) (by omega)
    have hg := grow_nil (n := 0) (st := ⟨[], []⟩) rfl
    simp at hix0 hix1 hg
    rw [u8s_nil]
    rw [c103]
    have hw0 : IntKind.i64.wrap 0 = 0 := rfl
    have hw1 : IntKind.i64.wrap 1 = 1 := rfl
    have hw2 : IntKind.i64.wrap 2 = 2 := rfl
    have happ := appV_noneS (n := 1) (m := 0) (cs := []) (nl := true) (o := .ro) (st := ⟨[], []⟩) (b := 1) (nl' := nl) (o' := .ro) rfl
    simp [l103_8, l103_33, hix0, hix1, gcT_stay, hg, hw0, hw1, hw2, happ]
  · have hp : 0 < b.length := List.length_pos_iff.2 h0
    have hnl : nl = false := by cases nl with | false => rfl | true => exact absurd (hl rfl) h0
    subst hnl
    have hix0 := ixV_sl (n := 1) (m := 2) (cs := [.slc false b.length (u8s b), .slc false b.length (u8s b)]) (o := .ex) (k := .i64) (i := 0) (by omega) (by omega)
    have hix1 := ixV_sl (n := 1) (m := 2) (cs := [.slc false b.length (u8s b), .slc false b.length (u8s b)]) (o := .ex) (k := .i64) (i := 1) (by omega) (by omega)
    have hg := grow_run (n := b.length + b.length) (st := ⟨[], []⟩) (by omega) (by unfold roomB; omega)
    have hw1 : IntKind.i64.wrap (b.length : Int) = b.length := w64 (by omega) (by omega)
    have hw2 : IntKind.i64.wrap ((b.length : Int) + (b.length : Int)) = (b.length : Int) + (b.length : Int) := w64 (by omega) (by omega)
    have hn1 : ¬ ((b.length : Int) < 0) := by omega
    have hn2 : ¬ ((b.length : Int) + (b.length : Int) < 0) := by omega
    have ha := appV_tokS (n := 1) (m := 0) (cs := []) (j := 0) (st := ⟨[], [0]⟩) (b := 1) (k := b.length) (ys := u8s b) (nl' := false) (o' := .ro) (by simp) (by simp) (by omega) (by unfold roomB; omega) rfl (.inr rfl)
    have hown : Own [b.length] false b.length (.tok 0) := .inr (.inr ⟨0, rfl, by simp, rfl, by omega⟩)
    obtain ⟨o4, E4, ha2, hown2⟩ := app_own (st := ⟨[], [b.length]⟩) (n := 1) (b := 1) (k := b.length) (cs := u8s b) (ys := u8s b) (nl' := false) (o' := .ro) hown (by simp) (by simp) (by omega) (by unfold roomB; omega)
    obtain ⟨o5, E5, hret⟩ := ret_sl (s := ⟨[], E4⟩) (st := st) (nl := false) (n := (b ++ b).length) (cs := u8s (b ++ b)) (o := o4)
    refine ⟨false, o5, E5, ?_, by simp⟩
    rw [u8s_append] at hret ⊢
    simp at hix0 hix1 hg ha ha2
    rw [c103]
    simp [l103_8, l103_33, hix0, hix1, gcT_stay, hg, (show IntKind.i64.wrap 0 = 0 from rfl), (show IntKind.i64.wrap 1 = 1 from rfl), (show IntKind.i64.wrap 2 = 2 from rfl), hw1, hw2, hn1, hn2, ha, ha2]
    simpa using hret
end Go.Proofs.CfgA
end
section
namespace Go.Proofs.CfgA
open Go Go.Tm Go.Proofs
set_option maxRecDepth 100000
set_option linter.unusedSimpArgs false
/-- What a thing that is done makes of bytes. -/
def stepB (d : DoV) (ins : List (List UInt8)) (b : List UInt8) : Option (List UInt8) :=
  if d.kind = 1 then some d.text.data.toList
  else if d.kind = 2 then ins[d.n.toNat]?
  else if d.kind = 3 then some ins.flatten
  else if d.kind = 4 then some (b.map (turnC 97 122 (-32)))
  else if d.kind = 5 then some (b.map (turnC 65 90 32))
  else if d.kind = 6 then some b.reverse
  else if d.kind = 7 then some (b.take d.n.toNat)
  else if d.kind = 8 then some (b.drop d.n.toNat)
  else if d.kind = 9 then some (b ++ b)
  else if d.kind = 10 then some (joinF true d.text.data.toList b)
  else none
theorem joinF_len (s : List UInt8) : ∀ (f : Bool) (b : List UInt8), (joinF f s b).length ≤ b.length * (s.length + 1)
  | _, [] => by simp [joinF]
  | true, c :: l => by
    have := joinF_len s false l
    simp only [joinF, List.length_cons, Nat.succ_mul]; omega
  | false, c :: l => by
    have := joinF_len s false l
    simp only [joinF, List.length_cons, List.length_append, Nat.succ_mul]; omega
theorem step_run {d : DoV} {ins : List Row} {b : List UInt8} {nl nl2 : Bool} {n n2 : Nat} {o o2 : Ow} {st : St} (h0 : 0 ≤ d.n) (ht : d.text.size ≤ 1000) (hn2 : n2 = ins.length) (hnl2 : nl2 = true → ins = []) (hrow : ∀ r ∈ ins, r.2.length ≤ roomB) (hcnt : ins.length ≤ roomB) (hsum : (ins.map (·.2)).flatten.length ≤ roomB)
    (hn : n = b.length) (hnl : nl = true → b = []) (hb : b.length ≤ 1000) :
    ∃ nl' o' E', callI cfg 82 [.agg d.t, .sl nl2 n2 (rowsD ins) o2, .sl nl n (u8s b) o] st =
      some (.tup [.sl nl' ((stepB d (ins.map (·.2)) b).getD []).length (u8s ((stepB d (ins.map (·.2)) b).getD [])) o', .d (.bool (stepB d (ins.map (·.2)) b).isSome)], ⟨st.H, E'⟩) ∧ (nl' = true → (stepB d (ins.map (·.2)) b).getD [] = []) := by
  subst hn hn2
  obtain ⟨k, m, s⟩ := d
  simp only at h0 ht
  have hbr : b.length ≤ roomB := by unfold roomB; omega
  by_cases h1 : k = 1
  · subst h1
    exact ⟨false, .ro, st.E, by simp [c82, DoV.t, stepB, conv_sb], by simp⟩
  by_cases h2 : k = 2
  · subst h2
    obtain ⟨j, rfl⟩ := Int.eq_ofNat_of_zero_le h0
    by_cases hj : j < ins.length
    · have hj' : ¬ ((ins.length : Int) ≤ j) := by omega
      have hnl2' : nl2 = false := by cases nl2 with | false => rfl | true => exact absurd (hnl2 rfl) (by intro h; rw [h] at hj; simp at hj)
      subst hnl2'
      have hix := ixV_sl (n := 1) (m := ins.length) (cs := rowsD ins) (o := closeO o2) (k := .i64) (i := (j : Int)) (by omega) (by omega)
      simp only [Int.toNat_natCast, Nat.mul_one] at hix
      have hg : ins[j]? = some ins[j] := List.getElem?_eq_getElem hj
      have hc := clone_run (l := ins[j].2) (nl := (ins[j].1 && ins[j].2.isEmpty)) (n := ins[j].2.length) (o := .ro) (st := ⟨[.cells [.d (.int .i64 2), .d (.int .i64 j), .d (.string s)]], []⟩) rfl nl_nil (hrow _ (List.getElem_mem hj))
      have hc' : ∃ oc Ec, callI cfg 79 [.sl (ins[j].1 && ins[j].2.isEmpty) ins[j].2.length (u8s ins[j].2) .ro] ⟨[.cells [.d (.int .i64 2), .d (.int .i64 j), .d (.string s)]], []⟩ = some (.sl (ins[j].1 && ins[j].2.isEmpty) ins[j].2.length (u8s ins[j].2) oc, ⟨[.cells [.d (.int .i64 2), .d (.int .i64 j), .d (.string s)]], Ec⟩) := ⟨_, _, hc⟩
      obtain ⟨oc, Ec, hc⟩ := hc'
      obtain ⟨o3, E3, hret⟩ := ret_sl (s := ⟨[.cells [.d (.int .i64 2), .d (.int .i64 j), .d (.string s)]], Ec⟩) (st := st) (nl := (ins[j].1 && ins[j].2.isEmpty)) (n := ins[j].2.length) (cs := u8s ins[j].2) (o := oc)
      have hst : stepB ⟨2, (j : Int), s⟩ (ins.map (·.2)) b = some ins[j].2 := by simp [stepB, hg]
      rw [hst]
      refine ⟨(ins[j].1 && ins[j].2.isEmpty), o3, E3, ?_, nl_nil⟩
      simp [c82, DoV.t, hj', hix, hj, hc, hret]
    · have hj' : ((ins.length : Int) ≤ j) := by omega
      have hst : stepB ⟨2, (j : Int), s⟩ (ins.map (·.2)) b = none := by simp [stepB]; omega
      rw [hst]
      exact ⟨true, .ex, st.E, by simp [c82, DoV.t, hj'], by simp⟩
  by_cases h3 : k = 3
  · subst h3
    obtain ⟨nl', hj, hjn⟩ := join_run (l := ins) (nl := nl2) (n := ins.length) (o := closeO o2) (st := ⟨[.cells [.d (.int .i64 3), .d (.int .i64 m), .d (.string s)]], []⟩) rfl hcnt (by rw [List.flatMap_def]; exact hsum)
    have hst : stepB ⟨3, m, s⟩ (ins.map (·.2)) b = some (ins.flatMap (·.2)) := by simp [stepB, List.flatMap]
    rw [hst]
    refine ⟨nl', .ro, st.E, ?_, hjn⟩
    simp only [Option.getD_some, Option.isSome_some]
    generalize ins.flatMap (·.2) = x at *
    simp [c82, DoV.t, hj]
  by_cases h4 : k = 4
  · subst h4
    obtain ⟨oc, hc⟩ := turned_run (b := b) (nl := nl) (n := b.length) (o := closeO o) (st := ⟨[.cells [.d (.int .i64 4), .d (.int .i64 m), .d (.string s)]], []⟩) (a := 97) (z := 122) (by_ := -32) (by omega) rfl hnl hbr
    obtain ⟨o3, E3, hret⟩ := ret_sl (s := ⟨[.cells [.d (.int .i64 4), .d (.int .i64 m), .d (.string s)]], []⟩) (st := st) (nl := nl) (n := b.length) (cs := u8s (b.map (turnC 97 122 (-32)))) (o := oc)
    have hst : stepB ⟨4, m, s⟩ (ins.map (·.2)) b = some (b.map (turnC 97 122 (-32))) := by simp [stepB]
    rw [hst]
    refine ⟨nl, o3, E3, ?_, fun h => by simp [hnl h]⟩
    simp [c82, DoV.t, hc, hret]
  by_cases h5 : k = 5
  · subst h5
    obtain ⟨oc, hc⟩ := turned_run (b := b) (nl := nl) (n := b.length) (o := closeO o) (st := ⟨[.cells [.d (.int .i64 5), .d (.int .i64 m), .d (.string s)]], []⟩) (a := 65) (z := 90) (by_ := 32) (by omega) rfl hnl hbr
    obtain ⟨o3, E3, hret⟩ := ret_sl (s := ⟨[.cells [.d (.int .i64 5), .d (.int .i64 m), .d (.string s)]], []⟩) (st := st) (nl := nl) (n := b.length) (cs := u8s (b.map (turnC 65 90 32))) (o := oc)
    have hst : stepB ⟨5, m, s⟩ (ins.map (·.2)) b = some (b.map (turnC 65 90 32)) := by simp [stepB]
    rw [hst]
    refine ⟨nl, o3, E3, ?_, fun h => by simp [hnl h]⟩
    simp [c82, DoV.t, hc, hret]
  by_cases h6 : k = 6
  · subst h6
    have hst : stepB ⟨6, m, s⟩ (ins.map (·.2)) b = some b.reverse := by simp [stepB]
    rw [hst]
    have hc := clone_run (l := b) (nl := nl) (n := b.length) (o := closeO o) (st := ⟨[.cells [.d (.int .i64 6), .d (.int .i64 m), .d (.string s)]], []⟩) rfl hnl hbr
    by_cases hbe : b = []
    · subst hbe
      simp at hc
      refine ⟨nl, .ex, st.E, ?_, by simp⟩
      have hw : IntKind.i64.wrap (-1) = -1 := w64 (by omega) (by omega)
      simp [c82, DoV.t, hc, pure79, tw_ex, c102, l102_3, hw]
    · have hnl' : nl = false := by cases nl with | false => rfl | true => exact absurd (hnl rfl) hbe
      subst hnl'
      simp [hbe] at hc
      have ht := tw_loc (E := []) (H := [.cells [.d (.int .i64 6), .d (.int .i64 m), .d (.string s)]]) (H' := [.cells [.d (.int .i64 6), .d (.int .i64 m), .d (.string s)]]) (l := b) (n := b.length)
      simp at ht
      have hw : IntKind.i64.wrap ((b.length : Int) - 1) = b.length - 1 := w64 (by omega) (by omega)
      obtain ⟨fr, hl⟩ := loop102 (.cells [.d (.int .i64 6), .d (.int .i64 m), .d (.string s)]) [] b.length hbr b.length b [] [] 0 ((b.length : Int) - 1) (Nat.le_refl _) (by simp) rfl rfl (by simp)
      simp at hl
      refine ⟨false, .ro, st.E, ?_, by simp⟩
      simp [c82, DoV.t, hc, pure79, ht, c102, hl, hw, u8t_toDs]
  by_cases h7 : k = 7
  · subst h7
    have hst : stepB ⟨7, m, s⟩ (ins.map (·.2)) b = some (b.take m.toNat) := by simp [stepB]
    rw [hst]
    have hsl := sliceV_hi (n := 1) (m := b.length) (nl := nl) (cs := u8s b) (o := closeO o) (k := .i64) (j := min m (b.length : Int)) (e := 5) (by simp) (by omega) (by omega)
    have e1 : (min m (b.length : Int)).toNat = min m.toNat b.length := by omega
    have e2 : b.take (min m.toNat b.length) = b.take m.toNat := by
      by_cases h : m.toNat ≤ b.length
      · rw [Nat.min_eq_left h]
      · rw [Nat.min_eq_right (by omega), List.take_of_length_le (Nat.le_refl _), List.take_of_length_le (by omega)]
    rw [e1, Nat.mul_one, u8s_take, e2] at hsl
    have e3 : (b.take m.toNat).length = min m.toNat b.length := by simp
    obtain ⟨o3, E3, hret⟩ := ret_sl (s := ⟨[.cells [.d (.int .i64 7), .d (.int .i64 m), .d (.string s)]], []⟩) (st := st) (nl := nl) (n := min m.toNat b.length) (cs := u8s (b.take m.toNat)) (o := cutO (closeO o) b.length 0 (min m.toNat b.length) none)
    refine ⟨nl, o3, E3, ?_, fun h => by simp [hnl h]⟩
    simp only [Option.getD_some, Option.isSome_some, e3]
    simp [c82, DoV.t, hsl, hret]
  by_cases h8 : k = 8
  · subst h8
    have hst : stepB ⟨8, m, s⟩ (ins.map (·.2)) b = some (b.drop m.toNat) := by simp [stepB]
    rw [hst]
    have hsl := sliceV_lo (n := 1) (m := b.length) (nl := nl) (cs := u8s b) (o := closeO o) (k := .i64) (i := min m (b.length : Int)) (e := 5) (by simp) (by omega) (by omega)
    have e1 : (min m (b.length : Int)).toNat = min m.toNat b.length := by omega
    have e2 : b.drop (min m.toNat b.length) = b.drop m.toNat := by
      by_cases h : m.toNat ≤ b.length
      · rw [Nat.min_eq_left h]
      · rw [Nat.min_eq_right (by omega), List.drop_of_length_le (Nat.le_refl _), List.drop_of_length_le (by omega)]
    rw [e1, Nat.mul_one, u8s_drop, e2] at hsl
    have e3 : (b.drop m.toNat).length = b.length - min m.toNat b.length := by simp; omega
    obtain ⟨o3, E3, hret⟩ := ret_sl (s := ⟨[.cells [.d (.int .i64 8), .d (.int .i64 m), .d (.string s)]], []⟩) (st := st) (nl := nl) (n := b.length - min m.toNat b.length) (cs := u8s (b.drop m.toNat)) (o := cutO (closeO o) b.length (min m.toNat b.length) b.length none)
    refine ⟨nl, o3, E3, ?_, fun h => by simp [hnl h]⟩
    simp only [Option.getD_some, Option.isSome_some, e3]
    simp [c82, DoV.t, hsl, hret]
  by_cases h9 : k = 9
  · subst h9
    have hst : stepB ⟨9, m, s⟩ (ins.map (·.2)) b = some (b ++ b) := by simp [stepB]
    rw [hst]
    obtain ⟨nl', oc, Ec, hc, hcn⟩ := twice_run (b := b) (nl := nl) (st := ⟨[.cells [.d (.int .i64 9), .d (.int .i64 m), .d (.string s)]], []⟩) hnl (by omega)
    obtain ⟨o3, E3, hret⟩ := ret_sl (s := ⟨[.cells [.d (.int .i64 9), .d (.int .i64 m), .d (.string s)]], Ec⟩) (st := st) (nl := nl') (n := (b ++ b).length) (cs := u8s (b ++ b)) (o := oc)
    refine ⟨nl', o3, E3, ?_, hcn⟩
    simp only [Option.getD_some, Option.isSome_some]
    generalize b ++ b = x at *
    simp [c82, DoV.t, putAt, repeatL, hc, hret]
  by_cases h10 : k = 10
  · subst h10
    have hst : stepB ⟨10, m, s⟩ (ins.map (·.2)) b = some (joinF true s.data.toList b) := by simp [stepB]
    rw [hst]
    have hjl := joinF_len s.data.toList true b
    have hsz : s.data.toList.length = s.size := by simp
    have hj2 : b.length * (s.data.toList.length + 1) ≤ 1000 * 1001 := Nat.mul_le_mul hb (by omega)
    obtain ⟨nl', oc, Ec, hc, hcn⟩ := joined_run (b := b) (s := s) (nl := nl) (n := b.length) (o := closeO o) (st := ⟨[.cells [.d (.int .i64 10), .d (.int .i64 m), .d (.string s)]], []⟩) rfl hnl (by omega) (by unfold roomB; omega)
    obtain ⟨o3, E3, hret⟩ := ret_sl (s := ⟨[.cells [.d (.int .i64 10), .d (.int .i64 m), .d (.string s)]], Ec⟩) (st := st) (nl := nl') (n := (joinF true s.data.toList b).length) (cs := u8s (joinF true s.data.toList b)) (o := oc)
    refine ⟨nl', o3, E3, ?_, hcn⟩
    simp only [Option.getD_some, Option.isSome_some]
    generalize joinF true s.data.toList b = x at *
    simp [c82, DoV.t, hc, hret]
  · have hst : stepB ⟨k, m, s⟩ (ins.map (·.2)) b = none := by simp [stepB, h1, h2, h3, h4, h5, h6, h7, h8, h9, h10]
    rw [hst]
    exact ⟨true, .ex, st.E, by simp [c82, DoV.t, h1, h2, h3, h4, h5, h6, h7, h8, h9, h10], by simp⟩
end Go.Proofs.CfgA
end
section
namespace Go.Proofs.CfgA
open Go Go.Tm Go.Proofs
set_option maxRecDepth 100000
set_option linter.unusedSimpArgs false
def runS (ins : List (List UInt8)) : List DoV → List UInt8 → Option (List UInt8)
  | [], b => some b
  | d :: l, b => match stepB d ins b with
    | none => none
    | some x => if 256 < x.length then none else runS ins l x
def runA (l : List DoV) (ins : List (List UInt8)) : Option (List UInt8) := if okAct l = true then runS ins l [] else none
theorem right_facts {d : DoV} (h : rightD d = true) : 0 ≤ d.n ∧ d.text.size ≤ 64 := by
  unfold rightD at h
  split at h
  · simp at h
  · split at h
    · simp [fitsB, fitsL] at h
      exact ⟨by omega, by simpa using h.2.2⟩
    · simp at h
      refine ⟨h.2.1, ?_⟩
      rw [h.1]; decide
theorem okDos_all : ∀ (f : Bool) (l : List DoV), okDos f l = true → ∀ d ∈ l, rightD d = true
  | _, [], _, d, hd => by simp at hd
  | f, a :: l, h, d, hd => by
    simp [okDos] at h
    rcases List.mem_cons.1 hd with rfl | hd
    · exact h.1
    · exact okDos_all false l h.2.2 d hd
theorem loop52 (l : List DoV) (ins : List Row) (nl2 nl3 : Bool) (o2 o3 : Ow) (hnl3 : nl3 = true → l = []) (hm : l.length ≤ 1000000) (hall : ∀ d ∈ l, rightD d = true) (hnl2 : nl2 = true → ins = []) (hrow : ∀ r ∈ ins, r.2.length ≤ roomB) (hcnt : ins.length ≤ roomB) (hsum : (ins.map (·.2)).flatten.length ≤ roomB) : ∀ (suf pre : List DoV) (b : List UInt8) (n : Nat) (i : Int) (nl : Bool) (o : Ow) (E : List Nat), l = pre ++ suf → n = b.length → i = pre.length → (nl = true → b = []) → b.length ≤ 256 →
    (∀ x, runS (ins.map (·.2)) suf b = some x → x.length ≤ 256 ∧ ∃ nl' o' E' fr, runI cfg 52 n52_16 [(1, .sl nl2 ins.length (rowsD ins) o2), (6, .sl nl n (u8s b) o), (14, .sl nl3 l.length (dosD l) o3), (15, .d (.int .i64 l.length)), (16, .d (.int .i64 i))] ⟨[], E⟩ =
      some (.exit 0, (1, .sl nl2 ins.length (rowsD ins) o2) :: (6, .sl nl' x.length (u8s x) o') :: fr, ⟨[], E'⟩) ∧ (nl' = true → x = [])) ∧
    (runS (ins.map (·.2)) suf b = none → ∃ st', runI cfg 52 n52_16 [(1, .sl nl2 ins.length (rowsD ins) o2), (6, .sl nl n (u8s b) o), (14, .sl nl3 l.length (dosD l) o3), (15, .d (.int .i64 l.length)), (16, .d (.int .i64 i))] ⟨[], E⟩ =
      some (.ret, [(4, .sl true 0 [] .ex), (5, .d (.bool false))], st'))
  | [], pre, b, n, i, nl, o, E, hl, hn, hi, hnl, hb => by
    subst hn hi
    constructor
    · intro x hx
      simp [runS] at hx
      subst hx
      refine ⟨hb, nl, o, E, ?_⟩
      simp [l52_16, hl]
      exact hnl
    · intro h; simp [runS] at h
  | d :: suf, pre, b, n, i, nl, o, E, hl, hn, hi, hnl, hb => by
    subst hn hi
    have hlt : pre.length < l.length := by rw [hl]; simp
    have hlt' : (pre.length : Int) < l.length := by omega
    have hg : l[pre.length] = d := by simp [hl]
    have hnl3' : nl3 = false := by cases nl3 with | false => rfl | true => exact absurd (hnl3 rfl) (by rw [hl]; simp)
    subst hnl3'
    have hix := ixV_sl (n := 3) (m := l.length) (cs := dosD l) (o := o3) (k := .i64) (i := (pre.length : Int)) (by omega) hlt'
    simp only [Int.toNat_natCast] at hix
    have hp := dosD_piece l pre.length hlt
    rw [hg] at hp
    have hw : IntKind.i64.wrap ((pre.length : Int) + 1) = pre.length + 1 := w64 (by omega) (by omega)
    obtain ⟨f1, f2⟩ := right_facts (hall d (by simp [hl]))
    obtain ⟨nl', o', E', hs, hsn⟩ := step_run (d := d) (ins := ins) (b := b) (nl := nl) (nl2 := nl2) (n := b.length) (n2 := ins.length) (o := o) (o2 := o2) (st := ⟨[.cells d.t], E⟩) f1 (by omega) rfl hnl2 hrow hcnt hsum rfl hnl (by omega)
    have front : ∀ (R : Res), (R = loopR cfg 52 n52_16 0 (thenR cfg 52 n52_38 (blockI 1 (thenR cfg 52 n52_29 (some (.normal, [(1, .sl nl2 ins.length (rowsD ins) o2), (9, .sl nl' ((stepB d (ins.map (·.2)) b).getD []).length (u8s ((stepB d (ins.map (·.2)) b).getD [])) o'), (10, .d (.bool (stepB d (ins.map (·.2)) b).isSome)), (14, .sl false l.length (dosD l) o3), (15, .d (.int .i64 l.length)), (16, .d (.int .i64 pre.length))], ⟨[.cells d.t], E'⟩))))))
        → runI cfg 52 n52_16 [(1, .sl nl2 ins.length (rowsD ins) o2), (6, .sl nl b.length (u8s b) o), (14, .sl false l.length (dosD l) o3), (15, .d (.int .i64 l.length)), (16, .d (.int .i64 pre.length))] ⟨[], E⟩ = R := by
      intro R hR
      rw [hR, l52_16]
      obtain ⟨k, m, s⟩ := d
      simp only [DoV.t] at hs
      simp [-e52_29, hlt', hix, hp, DoV.t, putAt, hs]
    cases hst : stepB d (ins.map (·.2)) b with
    | none =>
      rw [hst] at front
      refine ⟨fun x hx => (by simp [runS, hst] at hx), fun _ => ?_⟩
      refine ⟨⟨[.cells d.t], E'⟩, front _ ?_⟩
      simp
    | some x =>
      rw [hst] at front hsn
      simp only [Option.getD_some, Option.isSome_some] at front hsn
      by_cases hx : 256 < x.length
      · refine ⟨fun y hy => (by simp [runS, hst, hx] at hy), fun _ => ?_⟩
        have hx' : (256 : Int) < x.length := by omega
        refine ⟨⟨[.cells d.t], E'⟩, front _ ?_⟩
        simp [hx']
      · have hx' : ¬ (256 : Int) < x.length := by omega
        have hrs : runS (ins.map (·.2)) (d :: suf) b = runS (ins.map (·.2)) suf x := by simp [runS, hst, hx]
        obtain ⟨ih1, ih2⟩ := loop52 l ins nl2 false o2 o3 hnl3 hm hall hnl2 hrow hcnt hsum suf (pre ++ [d]) x x.length ((pre.length : Int) + 1) nl' o' E' (by simp [hl]) rfl (by simp) hsn (by omega)
        rw [hrs]
        constructor
        · intro y hy
          obtain ⟨hyl, nl4, o4, E4, fr, h, hyn⟩ := ih1 y hy
          refine ⟨hyl, nl4, o4, E4, fr, front _ ?_, hyn⟩
          simp [hx', hw]
          rw [gcT_cut (by simp) (by simp) (by simp)]
          simpa using h.symm
        · intro hy
          obtain ⟨st', h⟩ := ih2 hy
          refine ⟨st', front _ ?_⟩
          simp [hx', hw]
          rw [gcT_cut (by simp) (by simp) (by simp)]
          simpa using h.symm
theorem run_run {l : List DoV} {ins : List Row} {nl nl2 : Bool} {n n2 : Nat} {o o2 : Ow} {st : St} (hn : n = l.length) (hnl : nl = true → l = []) (hm : l.length ≤ 1000000) (hs : ∀ d ∈ l, d.text.size ≤ roomB) (hn2 : n2 = ins.length) (hnl2 : nl2 = true → ins = []) (hrow : ∀ r ∈ ins, r.2.length ≤ roomB) (hcnt : ins.length ≤ roomB) (hsum : (ins.map (·.2)).flatten.length ≤ roomB) :
    ∃ nl' o' E', callI cfg 52 [.sl nl n (dosD l) o, .sl nl2 n2 (rowsD ins) o2] st = some (.tup [.sl nl' ((runA l (ins.map (·.2))).getD []).length (u8s ((runA l (ins.map (·.2))).getD [])) o', .d (.bool (runA l (ins.map (·.2))).isSome)], ⟨st.H, E'⟩) ∧ (nl' = true → (runA l (ins.map (·.2))).getD [] = []) := by
  subst hn hn2
  have hok := fun st => ok_run (l := l) (nl := nl) (n := l.length) (o := closeO o) (st := st) rfl hnl hm hs
  by_cases hk : okAct l = true
  · rw [hk] at hok
    have hall : ∀ d ∈ l, rightD d = true := by
      simp [okAct] at hk
      exact okDos_all true l hk.1
    obtain ⟨h1, h2⟩ := loop52 l ins nl2 nl (closeO o2) (closeO o) hnl hm hall hnl2 hrow hcnt hsum l [] [] 0 0 true .ex [] rfl rfl rfl (by simp) (by simp)
    rw [u8s_nil] at h1 h2
    have hra : runA l (ins.map (·.2)) = runS (ins.map (·.2)) l [] := by simp [runA, hk]
    rw [hra]
    cases hr : runS (ins.map (·.2)) l [] with
    | none =>
      obtain ⟨st', h⟩ := h2 hr
      refine ⟨true, .ex, st.E, ?_, by simp⟩
      simp [c52, hok, h]
    | some x =>
      obtain ⟨hx, nl', o', E', fr, h, hxn⟩ := h1 x hr
      have hc := clone_run (l := x) (nl := nl') (n := x.length) (o := o') (st := ⟨[], E'⟩) rfl hxn (by unfold roomB; omega)
      refine ⟨nl', .ex, st.E, ?_, hxn⟩
      simp [c52, hok, h, hc, clip_run]
  · simp only [Bool.not_eq_true] at hk
    rw [hk] at hok
    have hra : runA l (ins.map (·.2)) = none := by simp [runA, hk]
    rw [hra]
    refine ⟨true, .ex, st.E, ?_, by simp⟩
    simp [c52, hok]
theorem flatten_le (c : Nat) : ∀ (l : List (List UInt8)), (∀ x ∈ l, x.length ≤ c) → l.flatten.length ≤ l.length * c
  | [], _ => by simp
  | x :: l, h => by
    have h1 := h x (by simp)
    have h2 := flatten_le c l (fun y hy => h y (by simp [hy]))
    simp only [List.flatten_cons, List.length_append, List.length_cons, Nat.add_mul]
    omega
def aValue (b : List UInt8) : Option (List UInt8) := if (aParse b).ok = true then runA (aParse b).l (aParse b).rows else none
theorem value_run {b : List UInt8} {nl : Bool} {n : Nat} {o : Ow} {st : St} (hn : n = b.length) (hl : nl = true → b = []) (hr : b.length ≤ roomB) (hs : ∀ d ∈ (aParse b).l, d.text.size ≤ roomB) (hm : (aParse b).l.length ≤ 1000000) (hrow : ∀ r ∈ (aParse b).rows, r.length ≤ roomB) (hcnt : (aParse b).rows.length ≤ roomB) (hsum : (aParse b).rows.flatten.length ≤ roomB) :
    ∃ nl' o' E', callI cfg 18 [.sl nl n (u8s b) o] st = some (.tup [.sl nl' ((aValue b).getD []).length (u8s ((aValue b).getD [])) o', .d (.bool (aValue b).isSome)], ⟨st.H, E'⟩) ∧ (nl' = true → (aValue b).getD [] = []) := by
  obtain ⟨nl1, o1, nl2, o2, E1, R, h1, hn1, hn2, hR⟩ := parse_run (b := b) (nl := nl) (n := n) (o := closeO o) (st := ⟨[], []⟩) hn hl hr
  cases hok : (aParse b).ok with
  | false =>
    rw [hok] at h1
    have hv : aValue b = none := by simp [aValue, hok]
    rw [hv]
    refine ⟨true, .ex, st.E, ?_, by simp⟩
    simp [c18, h1]
  | true =>
    rw [hok] at h1
    have hv : aValue b = runA (aParse b).l (R.map (·.2)) := by simp [aValue, hok, hR]
    rw [hv]
    obtain ⟨nl', o', E', h2, hn'⟩ := run_run (l := (aParse b).l) (ins := R) (nl := nl1) (nl2 := nl2) (n := (aParse b).l.length) (n2 := R.length) (o := o1) (o2 := o2) (st := ⟨[], E1⟩) rfl hn1 hm hs rfl hn2 (fun r hr => hrow r.2 (by rw [← hR]; exact List.mem_map_of_mem hr)) (by rw [← hR, List.length_map] at hcnt; exact hcnt) (by rw [← hR] at hsum; exact hsum)
    obtain ⟨o3, E3, hret⟩ := ret_sl (s := ⟨[], E'⟩) (st := st) (nl := nl') (n := ((runA (aParse b).l (R.map (·.2))).getD []).length) (cs := u8s ((runA (aParse b).l (R.map (·.2))).getD [])) (o := o')
    refine ⟨nl', o3, E3, ?_, hn'⟩
    simp [c18, h1, h2, hret]
end Go.Proofs.CfgA
end
section
namespace Go.Proofs.CfgA
open Go Go.Tm Go.Proofs
set_option maxRecDepth 100000
set_option linter.unusedSimpArgs false
theorem beN_six (n : Nat) (h : n ≤ 1099511627776) (t : List UInt8) : beN ((six n ++ t).take 6) = n := by
  have : (six n ++ t).take 6 = six n := by simp [six]
  rw [this]
  have ho : ∀ k, (oct n k).toNat = n / 256 ^ k % 256 := fun k => by simp [oct]
  simp only [six, beN, List.foldl_cons, List.foldl_nil, ho]
  simp only [Nat.reducePow]
  omega
theorem clampN_le (n : Int) : clampN n ≤ 1099511627776 := by unfold clampN; omega
theorem clampN_nat (n : Nat) (h : n ≤ 1099511627776) : clampN (n : Int) = n := by unfold clampN; omega
theorem clampN_int {n : Int} (h0 : 0 ≤ n) (h : n ≤ 1099511627776) : (clampN n : Int) = n := by unfold clampN; omega
theorem aNum_six (n : Int) (t : List UInt8) (top : Int) : aNum (some (sixI n ++ t)) top = if top < (clampN n : Int) then (0, none) else ((clampN n : Int), some t) := by
  have h1 : ¬ (sixI n ++ t).length < 6 := by simp
  have h2 := beN_six (clampN n) (clampN_le n) t
  have h3 : (sixI n ++ t).drop 6 = t := by simp [sixI, six]
  unfold aNum
  simp only [h1, false_or]
  show (if top < (beN ((six (clampN n) ++ t).take 6) : Int) then _ else ((beN ((six (clampN n) ++ t).take 6) : Int), some ((sixI n ++ t).drop 6))) = _
  rw [h2, h3]
theorem aB_row (x t : List UInt8) (top : Int) (hx : x.length ≤ 1099511627776) : aB (some (rowB x ++ t)) top = if top < (x.length : Int) then ([], none) else (x, some t) := by
  have e : rowB x ++ t = sixI x.length ++ (x ++ t) := by simp [rowB]
  unfold aB
  rw [e, aNum_six, clampN_nat _ hx]
  by_cases h : top < (x.length : Int)
  · simp [h]
  · simp [h]
theorem aAct_none (T : Int) : ∀ (n : Nat) (l : List DoV), (aAct T n none l).2 = none
  | 0, l => rfl
  | n + 1, l => by rw [aAct]; exact aAct_none T n _
theorem aRows_none : ∀ (n : Nat) (l : List (List UInt8)), (aRows n none l).2 = none
  | 0, l => rfl
  | n + 1, l => by rw [aRows]; exact aRows_none n _
theorem strOf_list (s : ByteArray) : strOf s.data.toList = s := by cases s; simp [strOf]
theorem aAct_dos (T : Int) : ∀ (ds l : List DoV) (t : List UInt8), (∀ d ∈ ds, 0 ≤ d.kind ∧ d.kind ≤ 11 ∧ 0 ≤ d.n ∧ d.n ≤ 999 ∧ (d.text.size : Int) ≤ T ∧ d.text.size ≤ 1099511627776) → aAct T ds.length (some (dosB ds ++ t)) l = (l ++ ds, some t)
  | [], l, t, _ => by simp [aAct, dosB]
  | d :: ds, l, t, h => by
    obtain ⟨h1, h2, h3, h4, h5, h6⟩ := h d (by simp)
    have e : dosB (d :: ds) ++ t = sixI d.kind ++ (sixI d.n ++ (rowB d.text.data.toList ++ (dosB ds ++ t))) := by simp [dosB, doB, rowB]
    have hsz : d.text.data.toList.length = d.text.size := by simp
    rw [List.length_cons, aAct, e, aNum_six, clampN_int h1 (by omega), if_neg (by omega)]
    simp only
    rw [aNum_six, clampN_int h3 (by omega), if_neg (by omega)]
    simp only
    rw [aB_row _ _ _ (by omega), if_neg (by omega)]
    simp only
    rw [strOf_list, aAct_dos T ds _ t (fun d hd => h d (by simp [hd]))]
    simp
theorem right_bounds {d : DoV} (h : rightD d = true) : 0 ≤ d.kind ∧ d.kind ≤ 11 ∧ 0 ≤ d.n ∧ d.n ≤ 999 ∧ d.text.size ≤ 64 := by
  obtain ⟨f1, f2⟩ := right_facts h
  unfold rightD at h
  split at h
  · simp at h
  · rename_i hk
    refine ⟨by omega, by omega, f1, ?_, f2⟩
    split at h
    · simp at h; omega
    · simp at h
      have h2 := h.2.2
      have : topK d.kind ≤ 999 := by
        unfold topK
        by_cases h2 : d.kind = 2
        · rw [if_pos h2]; omega
        · rw [if_neg h2]; split <;> omega
      omega
theorem okAct_facts {l : List DoV} (h : okAct l = true) : l.length ≤ 8 ∧ 1 ≤ l.length ∧ ∀ d ∈ l, rightD d = true := by
  simp [okAct] at h
  exact ⟨h.2.2, h.2.1, okDos_all true l h.1⟩
theorem aAction_act {T : Int} (hT : 64 ≤ T) {l : List DoV} (h : okAct l = true) : aAction T (actB l) = (l, true) := by
  obtain ⟨h1, h2, h3⟩ := okAct_facts h
  have e : actB l = sixI l.length ++ (dosB l ++ []) := by simp [actB]
  have hn : aNum (some (actB l)) 8 = ((l.length : Int), some (dosB l ++ [])) := by
    rw [e, aNum_six, clampN_nat _ (by omega), if_neg (by omega)]
  have ha := aAct_dos T l [] [] (fun d hd => by
    obtain ⟨a1, a2, a3, a4, a5⟩ := right_bounds (h3 d hd)
    exact ⟨a1, a2, a3, a4, by omega, by omega⟩)
  unfold aAction
  simp only [hn, Int.toNat_natCast, ha, List.nil_append, decide_true, Bool.true_and, h]
theorem aRows_rows : ∀ (rows l : List (List UInt8)) (t : List UInt8), (∀ x ∈ rows, x.length ≤ 1099511627776) → 
    ((∀ x ∈ rows, x.length ≤ 256) → aRows rows.length (some (rows.flatMap rowB ++ t)) l = (l ++ rows, some t)) ∧ ((¬ ∀ x ∈ rows, x.length ≤ 256) → (aRows rows.length (some (rows.flatMap rowB ++ t)) l).2 = none)
  | [], l, t, _ => by simp [aRows]
  | x :: rows, l, t, h => by
    have e : (x :: rows).flatMap rowB ++ t = rowB x ++ (rows.flatMap rowB ++ t) := by simp
    have hx := h x (by simp)
    obtain ⟨ih1, ih2⟩ := aRows_rows rows (l ++ [x]) t (fun y hy => h y (by simp [hy]))
    rw [List.length_cons, aRows, e, aB_row _ _ _ hx]
    by_cases hxl : x.length ≤ 256
    · rw [if_neg (by omega)]
      simp only
      constructor
      · intro ha
        rw [ih1 (fun y hy => ha y (by simp [hy]))]; simp
      · intro ha
        apply ih2
        intro hall
        apply ha
        intro y hy
        rcases List.mem_cons.1 hy with rfl | hy
        · exact hxl
        · exact hall y hy
    · rw [if_pos (by omega)]
      simp only
      constructor
      · intro ha; exact absurd (ha x (by simp)) hxl
      · intro _; exact aRows_none _ _
/-- What is read of a print is what was printed, or nothing. -/
theorem parse_print {l : List DoV} {rows : List (List UInt8)} (h : okAct l = true) (hr : ∀ x ∈ rows, x.length ≤ 1099511627776) (hn : rows.length ≤ 1099511627776) :
    aParse (prnP l rows) = if rows.length ≤ 8 ∧ ∀ x ∈ rows, x.length ≤ 256 then ⟨l, rows, true⟩ else ⟨[], [], false⟩ := by
  obtain ⟨h1, h2, h3⟩ := okAct_facts h
  have hab := actB_bd (T := 64) h1 (fun d hd => (right_bounds (h3 d hd)).2.2.2.2)
  have e : prnP l rows = rowB (actB l) ++ (sixI rows.length ++ (rows.flatMap rowB ++ [])) := by simp [prnP]
  have hB : aB (some (prnP l rows)) 4000 = (actB l, some (sixI rows.length ++ (rows.flatMap rowB ++ []))) := by
    rw [e, aB_row _ _ _ (by omega), if_neg (by omega)]
  have hA := aAction_act (T := 256) (by omega) h
  obtain ⟨r1, r2⟩ := aRows_rows rows [] [] hr
  have hN := aNum_six (rows.length : Int) (rows.flatMap rowB ++ []) 8
  rw [clampN_nat _ hn] at hN
  have key : aParse (prnP l rows) = if (aRows (aNum (some (sixI rows.length ++ (rows.flatMap rowB ++ []))) 8).1.toNat (aNum (some (sixI rows.length ++ (rows.flatMap rowB ++ []))) 8).2 []).2 = some [] ∧ prnP l (aRows (aNum (some (sixI rows.length ++ (rows.flatMap rowB ++ []))) 8).1.toNat (aNum (some (sixI rows.length ++ (rows.flatMap rowB ++ []))) 8).2 []).1 = prnP l rows then ⟨l, (aRows (aNum (some (sixI rows.length ++ (rows.flatMap rowB ++ []))) 8).1.toNat (aNum (some (sixI rows.length ++ (rows.flatMap rowB ++ []))) 8).2 []).1, true⟩ else ⟨[], [], false⟩ := by
    unfold aParse
    simp only [hB, hA, true_and]
  rw [key]
  by_cases h8 : rows.length ≤ 8
  · rw [if_neg (by omega)] at hN
    by_cases hall : ∀ x ∈ rows, x.length ≤ 256
    · have hR : (if rows.length ≤ 8 ∧ ∀ x ∈ rows, x.length ≤ 256 then (⟨l, rows, true⟩ : Prs) else ⟨[], [], false⟩) = ⟨l, rows, true⟩ := if_pos ⟨h8, hall⟩
      rw [hR]
      simp only [hN, Int.toNat_natCast, r1 hall, List.nil_append]
      simp
    · have hR : (if rows.length ≤ 8 ∧ ∀ x ∈ rows, x.length ≤ 256 then (⟨l, rows, true⟩ : Prs) else ⟨[], [], false⟩) = ⟨[], [], false⟩ := if_neg (fun hh => hall hh.2)
      rw [hR]
      simp only [hN, Int.toNat_natCast, r2 hall]
      simp
  · rw [if_pos (by omega)] at hN
    have hR : (if rows.length ≤ 8 ∧ ∀ x ∈ rows, x.length ≤ 256 then (⟨l, rows, true⟩ : Prs) else ⟨[], [], false⟩) = ⟨[], [], false⟩ := if_neg (fun hh => h8 hh.1)
    rw [hR]
    simp only [hN]
    simp [aRows]
end Go.Proofs.CfgA
end
section
namespace Go.Proofs.CfgA
open Go Go.Tm Go.Proofs
set_option maxRecDepth 100000
def okB : Option (T × St) → Bool
  | some (.d (.bool true), _) => true
  | _ => false
theorem awake20 : okB (callT cfg 60 20 [] ⟨[], []⟩) = true := by kernel_rfl
end Go.Proofs.CfgA
end
section
namespace Go.Proofs.CfgA
open Go Go.Tm Go.Proofs
set_option maxRecDepth 100000
set_option linter.unusedSimpArgs false
/-- The last bits of a number. -/
theorem binV_mask {P : Program} {o : Op} {t : TypeId} {n : Int} (k : Nat) (m : Int) (hm : m = ((2 ^ k - 1 : Nat) : Int)) (hk : k ≤ 60) : binV P o .and t (.int .i64) (.d (.int .i64 n)) (.d (.int .i64 m)) = some (.d (.int .i64 (n % ((2 ^ k : Nat) : Int)))) := by
  have hp : 2 ^ k ≤ 2 ^ 60 := Nat.pow_le_pow_right (by omega) hk
  have hp0 : 0 < 2 ^ k := Nat.two_pow_pos k
  have hd : (2 ^ k : Nat) ∣ 2 ^ 64 := Nat.pow_dvd_pow 2 (by omega)
  have h1 : (BitVec.ofInt 64 m).toNat = 2 ^ k - 1 := by
    rw [BitVec.toNat_ofInt, hm]
    have : (2 ^ k - 1 : Nat) < 2 ^ 64 := by omega
    omega
  have h2 : ((BitVec.ofInt 64 n).toNat : Int) = n % (2 ^ 64 : Nat) := by
    rw [BitVec.toNat_ofInt]
    have : 0 ≤ n % ((2 ^ 64 : Nat) : Int) := Int.emod_nonneg _ (by decide)
    omega
  have h3 : ((BitVec.ofInt 64 n).toNat &&& (2 ^ k - 1) : Nat) = (BitVec.ofInt 64 n).toNat % 2 ^ k := Nat.and_two_pow_sub_one_eq_mod _ _
  have h4 : (((BitVec.ofInt 64 n).toNat % 2 ^ k : Nat) : Int) = n % ((2 ^ k : Nat) : Int) := by
    rw [Int.natCast_emod, h2]
    exact Int.emod_emod_of_dvd n (Int.natCast_dvd_natCast.2 hd)
  rw [binV_and, bits64, BitVec.toNat_and, h1, h3]
  have h5 : (BitVec.ofInt 64 n).toNat % 2 ^ k < 2 ^ k := Nat.mod_lt _ hp0
  rw [w64 (by omega) (by omega), h4]
theorem zeros_toDs : ∀ (m : Nat), T.toDs (repeatL [.d (.int .u8 0)] m) = some (u8s (List.replicate m 0))
  | 0 => rfl
  | m + 1 => by
    have := zeros_toDs m
    simp only [repeatL, List.cons_append, List.nil_append, toDs_cons, toD_d, ob_some, this, List.replicate_succ]
    rfl
def singles (n : Nat) : List Row := (List.range n).map fun (i : Nat) => (false, [ub (i : Int)])
theorem singles_succ (n : Nat) : singles (n + 1) = singles n ++ [(false, [ub (n : Int)])] := by simp [singles, List.range_succ]
@[simp] theorem singles_length (n : Nat) : (singles n).length = n := by simp [singles]
theorem row1 (c : UInt8) : D.slc false 1 [.flat (.int .u8 c.toNat)] = rowD (false, [c]) := rfl
theorem loop4 (N M : Nat) (hN : N ≤ 8) (H : List Box) : ∀ (m j : Nat) (nl : Bool) (o : Ow) (E : List Nat) (k : Nat) (i : Int), j + m = N → k = j → i = j → Own E nl j o →
    ∃ nl' o' E' fr, runI cfg 4 n4_10 [(0, .d (.int .i64 N)), (1, .d (.int .i64 M)), (5, .sl nl k (rowsD (singles j)) o), (6, .d (.int .i64 i))] ⟨H, E⟩ =
      some (.exit 0, (0, .d (.int .i64 N)) :: (1, .d (.int .i64 M)) :: (5, .sl nl' N (rowsD (singles N)) o') :: fr, ⟨H, E'⟩) ∧ Own E' nl' N o'
  | 0, j, nl, o, E, k, i, hj, hk, hi, ho => by
    have : j = N := by omega
    subst hk hi this
    refine ⟨nl, o, E, ?_⟩
    simp [l4_10]
    exact ho
  | m + 1, j, nl, o, E, k, i, hj, hk, hi, ho => by
    subst hk hi
    have hlt : (k : Int) < N := by omega
    have hw : IntKind.i64.wrap ((k : Int) + 1) = k + 1 := w64 (by omega) (by omega)
    obtain ⟨o2, E3, ha, hown⟩ := app_own (st := ⟨H, E⟩) (n := 1) (b := 24) (k := 1) (cs := rowsD (singles k)) (ys := [D.slc false 1 [D.flat (.int .u8 (IntKind.u8.wrap (k : Int)))]]) (nl' := false) (o' := .lit) ho (by simp) rfl (by omega) (by unfold roomB; omega)
    obtain ⟨nl', o', E', fr, ih, ih2⟩ := loop4 N M hN H m (k + 1) false o2 E3 (k + 1) ((k : Int) + 1) (by omega) rfl (by omega) hown
    refine ⟨nl', o', E', fr, ?_, ih2⟩
    have he : rowsD (singles (k + 1)) = rowsD (singles k) ++ [D.slc false 1 [D.flat (.int .u8 (IntKind.u8.wrap (k : Int)))]] := by
      rw [singles_succ, rowsD_append, ← rowsD_one, ← row1, wrap8, ← ub_nat]
    rw [he] at ih
    rw [l4_10]
    simp [hlt, putAt, ha, hw]
    rw [gcT_stay (by simp)]
    simpa using ih
theorem awake_st (st : St) : callI cfg 20 [] st = some (.d (.bool true), st) := by
  obtain ⟨st', h⟩ : ∃ st', callI cfg 20 [] ⟨[], []⟩ = some (.d (.bool true), st') := by
    have h := awake20
    unfold okB at h
    split at h
    · rename_i st' hc
      exact ⟨st', callI_iff.2 ⟨60, hc⟩⟩
    · simp at h
  rw [c20] at h ⊢
  simp only [closeAll_nil, ob_some] at h ⊢
  generalize endR cfg Try.f20 (runI cfg 20 n20_0 (enumF 0 []) ⟨[], []⟩) = X at *
  cases X with
  | none => simp [backR] at h
  | some p =>
    obtain ⟨t, s'⟩ := p
    simp only [backR] at h ⊢
    cases t with
    | d v => simp at h; simp [h.1]
    | sl nl n cs o => 
      cases o <;> simp at h
      split at h <;> simp at h
    | tup ts =>
      cases ts with
      | nil => simp at h
      | cons t ts =>
        simp only [retV] at h
        split at h <;> simp at h
    | agg cs => simp only [retV, ret1, closeT] at h; cases closeL cs <;> simp at h
    | loc id off n c =>
      exfalso
      simp only [retV, ret1] at h
      split at h
      · rename_i heq; cases heq
      · simp at h
        obtain ⟨_, h⟩ := h
        split at h
        · rename_i cs _
          cases hd : T.toDs cs <;> simp [hd] at h
        · simp at h
      · simp [closeT, closeV] at h
    | _ => simp [retV, ret1, closeT, closeV] at h
end Go.Proofs.CfgA
end
section
namespace Go.Proofs.CfgA
open Go Go.Tm Go.Proofs
set_option maxRecDepth 100000
set_option linter.unusedSimpArgs false
def zeros (m : Nat) : List UInt8 := List.replicate m 0
@[simp] theorem zeros_length (m : Nat) : (zeros m).length = m := by simp [zeros]
theorem rowZ (m : Nat) (_ : 0 < m) : D.slc false m (u8s (List.replicate m 0)) = rowD (false, zeros m) := by
  simp [rowD, zeros]
def longD (N : Nat) : DoV := ⟨2, N, ByteArray.empty⟩
theorem longD_ok (N : Nat) (h : N ≤ 15) : okAct [longD N] = true := by
  have h1 : rightD (longD N) = true := by
    simp [rightD, longD, textK, topK]; omega
  have h2 : beginK (longD N).kind = true := rfl
  simp only [okAct, okDos, h1, h2]; rfl
theorem long_run (n long : Int) : ∃ st', callI cfg 4 [.d (.int .i64 n), .d (.int .i64 long)] ⟨[], []⟩ = some (.d (.bool true), st') := by
  have hm1 : ∀ o t, binV cfg.P o .and t (.int .i64) (.d (.int .i64 n)) (.d (.int .i64 255)) = some (.d (.int .i64 (n % 256))) := fun o t => binV_mask 8 255 rfl (by omega)
  have hm2 : ∀ o t, binV cfg.P o .and t (.int .i64) (.d (.int .i64 long)) (.d (.int .i64 15)) = some (.d (.int .i64 (long % 16))) := fun o t => binV_mask 4 15 rfl (by omega)
  have b1 : 0 ≤ n % 256 := Int.emod_nonneg _ (by decide)
  have b2 : 0 ≤ long % 16 := Int.emod_nonneg _ (by decide)
  have b3 : long % 16 < 16 := Int.emod_lt_of_pos _ (by decide)
  have hr : ∀ o t, binV cfg.P o .rem t (.int .i64) (.d (.int .i64 (n % 256))) (.d (.int .i64 9)) = some (.d (.int .i64 ((n % 256).tmod 9))) := fun o t => binV_rem (by decide)
  have b4 : (n % 256).tmod 9 = n % 256 % 9 := Int.tmod_eq_emod_of_nonneg b1
  obtain ⟨N, hN⟩ : ∃ N : Nat, (n % 256).tmod 9 = N := ⟨((n % 256).tmod 9).toNat, by omega⟩
  have hN8 : N ≤ 8 := by omega
  obtain ⟨M, hM⟩ : ∃ M : Nat, 250 + long % 16 = M := ⟨(250 + long % 16).toNat, by omega⟩
  have hM1 : 250 ≤ M := by omega
  have hM2 : M ≤ 265 := by omega
  have hw : IntKind.i64.wrap (250 + long % 16) = M := by rw [hM]; exact w64 (by omega) (by omega)
  rw [hN] at hr
  have e3 : (N : Int) % 16 = N := by omega
  have hm3 : ∀ o t, binV cfg.P o .and t (.int .i64) (.d (.int .i64 N)) (.d (.int .i64 15)) = some (.d (.int .i64 ((N : Int) % 16))) := fun o t => binV_mask 4 15 rfl (by omega)
  rw [e3] at hm3
  obtain ⟨nl1, o1, E1, fr, hl, hown⟩ := loop4 N M hN8 [] N 0 true .ex [] 0 0 (by omega) rfl rfl own_ex
  have hs0 : rowsD (singles 0) = [] := rfl
  rw [hs0] at hl
  have hmk : makeV [.d (.int .u8 0)] 1 1 (.d (.int .i64 M)) (.d (.int .i64 M)) = some (M, repeatL [.d (.int .u8 0)] M) := by
    simp only [makeV, intV]
    rw [if_pos ⟨trivial, by omega, by simp; unfold roomB; omega, by omega⟩]
    simp
  have hz := zeros_toDs M
  obtain ⟨o2, E2, ha, hown2⟩ := app_own (st := ⟨[], E1⟩) (n := 1) (b := 24) (k := 1) (cs := rowsD (singles N)) (ys := [D.slc false M (u8s (List.replicate M 0))]) (nl' := false) (o' := .lit) hown (by simp) rfl (by omega) (by unfold roomB; omega)
  rw [rowZ M (by omega)] at ha
  let R : List Row := singles N ++ [(false, zeros M)]
  have hRl : R.length = N + 1 := by simp [R]
  have hap : rowsD (singles N) ++ [rowD (false, zeros M)] = rowsD R := by simp [R, rowsD]
  rw [hap] at ha
  have hRm : R.map (·.2) = (singles N).map (·.2) ++ [zeros M] := by simp [R]
  have hok := longD_ok N (by omega)
  have hRlen : ∀ x ∈ R.map (·.2), x.length ≤ 265 := by
    intro x hx
    rw [hRm] at hx
    rcases List.mem_append.1 hx with hx | hx
    · simp [singles] at hx
      obtain ⟨a, _, rfl⟩ := hx
      simp
    · simp at hx; subst hx; simp; exact hM2
  have hpl := prnP_bd (l := [longD N]) (T := 0) (c := 265) (rows := R.map (·.2)) (by simp) (by simp [longD]) (by simp [hRl]; omega) hRlen
  have hpb : (prnB [longD N] R).length ≤ roomB := by rw [prnB_P]; unfold roomB; omega
  obtain ⟨o3, E3, h16⟩ := print_run (l := [longD N]) (ins := R) (nl := false) (nl2 := false) (n := 1) (n2 := N + 1) (o := .lit) (o2 := o2) (st := ⟨[], E2⟩) rfl (by simp) (by simp) hRl.symm (by simp) (by rw [hRl]; omega) hpb
  rw [prnB_P] at h16
  have hpr := parse_print (l := [longD N]) (rows := R.map (·.2)) hok (fun x hx => by have := hRlen x hx; omega) (by simp [hRl]; omega)
  have hgood : ((R.map (·.2)).length ≤ 8 ∧ ∀ x ∈ R.map (·.2), x.length ≤ 256) ↔ (N < 8 ∧ M ≤ 256) := by
    rw [List.length_map, hRl]
    constructor
    · rintro ⟨h1, h2⟩
      refine ⟨by omega, ?_⟩
      have := h2 (zeros M) (by rw [hRm]; simp)
      simpa using this
    · rintro ⟨h1, h2⟩
      refine ⟨by omega, fun x hx => ?_⟩
      rw [hRm] at hx
      rcases List.mem_append.1 hx with hx | hx
      · simp [singles] at hx
        obtain ⟨a, _, rfl⟩ := hx
        simp
      · simp at hx; subst hx; simp; exact h2
  generalize hP : prnP [longD N] (R.map (·.2)) = P at *
  have hPl : P.length ≤ roomB := by unfold roomB; omega
  obtain ⟨nlA, oA, nlB, oB, E4, R2, h17, hnA, hnB, hR2⟩ := parse_run (b := P) (nl := false) (n := P.length) (o := o3) (st := ⟨[], E3⟩) rfl (by simp) hPl
  have hfs : ∀ d ∈ (aParse P).l, d.text.size ≤ roomB := by
    rw [hpr]; split
    · intro d hd; simp at hd; subst hd; simp [longD]
    · simp
  have hfm : (aParse P).l.length ≤ 1000000 := by rw [hpr]; split <;> simp
  have hfr : ∀ r ∈ (aParse P).rows, r.length ≤ roomB := by
    rw [hpr]; split
    · intro r hr; have := hRlen r hr; unfold roomB; omega
    · simp
  have hfc : (aParse P).rows.length ≤ roomB := by
    rw [hpr]; split
    · rw [List.length_map, hRl]; unfold roomB; omega
    · simp
  have hfl : (aParse P).rows.flatten.length ≤ roomB := by
    rw [hpr]; split
    · refine Nat.le_trans (flatten_le 265 _ hRlen) ?_
      rw [List.length_map, hRl]; unfold roomB; omega
    · simp
  obtain ⟨nlV, oV, E5, h18, hnV⟩ := value_run (b := P) (nl := false) (n := P.length) (o := o3) (st := ⟨[], E4⟩) rfl (by simp) hPl hfs hfm hfr hfc hfl
  have hawk := awake_st
  by_cases hg : N < 8 ∧ M ≤ 256
  · have hgi := hgood.2 hg
    rw [if_pos hgi] at hpr
    have hrow : (R.map (·.2))[N]? = some (zeros M) := by rw [hRm]; simp
    have hval : aValue P = some (zeros M) := by
      have hMM : ¬ (256 < M) := by omega
      have hst : stepB (longD N) (R.map (·.2)) [] = some (zeros M) := by simp only [stepB, longD]; simpa using hrow
      simp only [aValue, hpr, if_true, runA, hok, runS, hst, zeros_length, hMM, if_false]
    rw [hval] at h18
    rw [hpr] at h17 hR2
    have hsame : sameR R2 R = true := (sameR_iff _ _).2 hR2
    have h19 := fun st => samerows_run (x := R2) (y := R) (nl := nlB) (nl2 := false) (m := R2.length) (n := N + 1) (o := oB) (o2 := o2) (st := st) rfl hRl.symm hnB (by simp) (by have := congrArg List.length hR2; simp at this; omega)
    rw [hsame] at h19
    have hix := ixV_sl (n := 1) (m := N + 1) (cs := rowsD R) (o := o2) (k := .i64) (i := (N : Int)) (by omega) (by omega)
    simp only [Int.toNat_natCast, Nat.mul_one] at hix
    have hgetR : R[N]? = some (false, zeros M) := by simp [R]
    have c1 : (N : Int) < 8 := by omega
    have c2 : (M : Int) ≤ 256 := by omega
    simp only [Option.getD_some, Option.isSome_some, zeros_length] at h18
    have hcv := fun o => conv_bs' (P := cfg.P) (o := o) (e := 5) (nl := nlV) (w := oV) (l := zeros M) (n := M) (by simp)
    have hcv2 := fun o => conv_bs' (P := cfg.P) (o := o) (e := 5) (nl := (false && (zeros M).isEmpty)) (w := .ro) (l := zeros M) (n := M) (by simp)
    simp only [Bool.false_and] at hcv2
    refine ⟨⟨[], []⟩, ?_⟩
    have hRD : dosD [longD N] = [.flat (.int .i64 2), .flat (.int .i64 N), .flat (.string ByteArray.empty)] := rfl
    rw [hRD] at h16
    simp [c4, hm1, hm2, hm3, hr, hw, hl, hmk, hz, putAt, rowZ M (by omega), ha, h16, h17, h18, c1, c2, binV_beq uBool, h19, hix, hgetR, hcv, hcv2, hawk]
  · have hgi : ¬ ((R.map (·.2)).length ≤ 8 ∧ ∀ x ∈ R.map (·.2), x.length ≤ 256) := fun h => hg (hgood.1 h)
    rw [if_neg hgi] at hpr
    have hval : aValue P = none := by simp [aValue, hpr]
    rw [hval] at h18
    rw [hpr] at h17
    refine ⟨⟨[], []⟩, ?_⟩
    have hRD : dosD [longD N] = [.flat (.int .i64 2), .flat (.int .i64 N), .flat (.string ByteArray.empty)] := rfl
    rw [hRD] at h16
    simp only [Option.getD_none, Option.isSome_none, List.length_nil, u8s_nil, dosD_nil] at h18 h17
    by_cases c1 : (N : Int) < 8
    · have c2 : ¬ (M : Int) ≤ 256 := by omega
      simp [c4, hm1, hm2, hm3, hr, hw, hl, hmk, hz, putAt, rowZ M (by omega), ha, h16, h17, h18, c1, c2, binV_beq uBool, hawk]
    · simp [c4, hm1, hm2, hm3, hr, hw, hl, hmk, hz, putAt, rowZ M (by omega), ha, h16, h17, h18, c1, binV_beq uBool, hawk]
end Go.Proofs.CfgA
end
