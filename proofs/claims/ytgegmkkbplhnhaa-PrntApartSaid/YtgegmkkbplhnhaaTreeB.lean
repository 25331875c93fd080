/- The tree machine: bodies, calls and the chains of equations by which it is reckoned. No conditions. -/
import Derived.Test.YtgegmkkbplhnhaaTreeA
section
set_option linter.unusedVariables false
set_option linter.unusedSimpArgs false
namespace Go.Tm
open Go Go.RowKit

/-- What a call hands back, into the state of its caller. -/
def Back (C : Cfg) (g : Nat) (st st' : St) (r : T) (G : Gh) (w0 w : World) (e : Ending) (w' : World) : Prop :=
  ∃ v G', e = .returned v ∧ Ext G st.E w G' st'.E w' ∧ SR st' G' w0 w' ∧ VR G' st'.E w' r v ∧ (C.pure g = true → st'.H = st.H ∧ Below w.heap.size w w' ∧ ∀ q, G'.tk st.E.length = some q → w.heap.size ≤ q.g)

def CallOK (C : Cfg) (call : CallF) : Prop :=
  ∀ g as st r st', call g as st = some (r, st') → (∃ fn, C.P.funcs[g]? = some fn ∧ (fn.name == "runtime.NumGoroutine") = false ∧ fn.body.isNone = false) ∧
    ∀ G w0 w (args : Array Value), SR st G w0 w → VRL G st.E w as args.toList → Calls C.P g args w (Back C g st st' r G w0 w)

theorem run_callFunc {P : Program} {g : Nat} {fn : Func} {args : Array Value} {w : World} (h1 : P.funcs[g]? = some fn) (h2 : (fn.name == "runtime.NumGoroutine") = false) (h3 : fn.body.isNone = false) :
    (callFunc g args).run P w = .ok (.enter g args) w := by
  unfold callFunc
  simp only [Sem.run_bind]
  have : (program).run P w = .ok P w := rfl
  simp only [this, Result.andThen_ok, h1, h2, h3, Bool.false_eq_true, if_false]
  rfl

theorem Oper.wp_value {P : Program} {o : Oper} {a : Act} {w w' : World} {v : Value} {K : Act → World → Prop} {Q : Exit → Act → World → Prop} (h : (execOp a.eval o).run P w = .ok (.value v) w') (hk : K (a.put o.dst v) w') : o.wp P a w K Q := by
  unfold Oper.wp
  rw [h]
  exact hk
theorem Oper.wp_skip {P : Program} {o : Oper} {a : Act} {w w' : World} {K : Act → World → Prop} {Q : Exit → Act → World → Prop} (h : (execOp a.eval o).run P w = .ok .skip w') (hk : K (a.put o.dst undef) w') : o.wp P a w K Q := by
  unfold Oper.wp
  rw [h]
  exact hk
theorem Oper.wp_enter {P : Program} {o : Oper} {a : Act} {w w' : World} {g : Nat} {args : Array Value} {K : Act → World → Prop} {Q : Exit → Act → World → Prop} (h : (execOp a.eval o).run P w = .ok (.enter g args) w')
    (hk : Calls P g args w' (fun e w'' => ∃ v, e = .returned v ∧ K (a.put o.dst v) w'')) : o.wp P a w K Q := by
  unfold Oper.wp
  rw [h]
  exact hk.mono fun e w'' ⟨v, he, h⟩ => by subst he; exact h

/-- What stands behind an operation. -/
def Behind (st st' : St) (r : Option T) (G : Gh) (w0 w : World) (o : Oper) (a : Act) (K : Act → World → Prop) : Prop :=
  ∀ v w' G', Ext G st.E w G' st'.E w' → SR st' G' w0 w' → VR G' st'.E w' (r.getD undefT) v → K (a.put o.dst v) w'

theorem opT_ok {C : Cfg} {N : Nat} {fr : Fr} {a : Act} {st st' : St} {G : Gh} {w0 w : World} {o : Oper} {r : Option T} {K : Act → World → Prop} {Q : Exit → Act → World → Prop} (hf : FR N G st.E w fr a) (hs : SR st G w0 w)
    (h : opT C o fr st = some (r, st')) (hK : Behind st st' r G w0 w o a K) : o.wp C.P a w K Q := by
  unfold opT at h
  have quiet : ∀ t, quietT C o fr st.H = some t → r = some t → st' = st → o.wp C.P a w K Q := by
    rintro t ht rfl rfl
    obtain ⟨v, w', h1, h2, h3⟩ := quiet_ok hf hs ht
    exact Oper.wp_value h1 (hK v w' G (Ext_keep h2) (SR_keep hs h2) h3)
  split at h
  · split at h
    · rename_i t ht
      simp at h
      exact quiet t ht h.1.symm h.2.symm
    · simp at h
  · split at h
    · rename_i t ht
      simp at h
      exact quiet t ht h.1.symm h.2.symm
    · simp at h
  · split at h
    · rename_i b mk hal
      simp at h
      obtain ⟨rfl, rfl⟩ := h
      have hid : G.bx st.H.length = none := by
        cases hg : G.bx st.H.length with
        | none => rfl
        | some g => exact absurd (SR_box_lt hs hg) (by simp)
      obtain ⟨v, w', G', h1, h2, h3, h4, _⟩ := alloc_ok (C := C) (st := { st with H := st.H ++ [b] }) hf (SR_more hs) hal hid (by simp)
      exact Oper.wp_value h1 (hK v w' G' h2 h3 h4)
    · simp at h
  · split at h
    · rename_i H hw
      simp at h
      obtain ⟨rfl, rfl⟩ := h
      unfold writeT at hw
      split at hw
      · rename_i t x y ho
        obtain ⟨w', h1, h2, h3⟩ := store_ok hf hs hw
        refine Oper.wp_skip (w' := w') ?_ (hK undef w' G h2 h3 VR_undef)
        unfold execOp
        rw [ho]
        simp only [Sem.run_bind, h1, Result.andThen_ok, Sem.run_pure]
      · rename_i t m k x ho
        obtain ⟨w', h1, h2, h3⟩ := mapUpd_ok hf hs hw
        refine Oper.wp_skip (w' := w') ?_ (hK undef w' G h2 h3 VR_undef)
        unfold execOp
        rw [ho]
        simp only [Sem.run_bind, h1, Result.andThen_ok, Sem.run_pure]
      · simp at hw
    · simp at h
  · rename_i hcl
    split at h
    · rename_i c hop
      split at h
      · rename_i s x t u has hts
        split at h
        · rename_i t' st1 hap
          simp at h
          obtain ⟨rfl, rfl⟩ := h
          obtain ⟨v, w', G', h1, h2, h3, h4, _, _, _⟩ := append_ok (ty := o.type) hf hs hap
          obtain ⟨callee, args, argTypes⟩ := c
          unfold clsOf at hcl
          rw [hop] at hcl
          simp only at hcl has hts
          split at hcl <;> simp at hcl
          rename_i b
          obtain ⟨consts, he⟩ := exec_builtin (ρ := a.eval) hop
          refine Oper.wp_value (v := v) (w' := w') ?_ (hK v w' G' h2 h3 h4)
          have e1 : args = #[s, x] := by rw [← has]
          have e2 : argTypes = #[t, u] := by rw [← hts]
          rw [he, e1, e2]
          rw [show Array.map a.eval #[s, x] = #[a.eval s, a.eval x] by simp]
          unfold builtin
          simp only [Sem.run_bind, h1, Result.andThen_ok, Sem.run_pure]
        · simp at h
      · simp at h
    · simp at h
  · simp at h


theorem thaw_ok {st st' st'' : St} {G G' : Gh} {w0 w w' : World} {yes : Bool} {t : T} {r : Option T} {v : Value} (h : thawT yes st t st' = (r, st'')) (hs : SR st G w0 w) (hx : Ext G st.E w G' st'.E w') (hs' : SR st' G' w0 w') (hv : VR G' st'.E w' t v)
    (hpure : yes = true → st'.H = st.H ∧ Below w.heap.size w w' ∧ ∀ q, G'.tk st.E.length = some q → w.heap.size ≤ q.g) : ∃ G'', Ext G st.E w G'' st''.E w' ∧ SR st'' G'' w0 w' ∧ VR G'' st''.E w' (r.getD undefT) v := by
  have same : r = some t → st'' = st' → ∃ G'', Ext G st.E w G'' st''.E w' ∧ SR st'' G'' w0 w' ∧ VR G'' st''.E w' (r.getD undefT) v := by
    rintro rfl rfl
    exact ⟨G', hx, hs', hv⟩
  unfold thawT at h
  split at h
  · rename_i n cs k
    split at h
    · rename_i hc
      obtain ⟨rfl, hE, hflat⟩ := hc
      simp at h
      obtain ⟨rfl, rfl⟩ := h
      unfold VR at hv
      rcases hv with ⟨hv, _⟩ | ⟨_, ad, cap, rfl, hcap, hD, hk1, hk2, hk3⟩
      · cases hv
      · obtain ⟨q, hq, rfl, rfl, hql⟩ := hk3 (by rw [hE]; simp)
        obtain ⟨hH, hbel, hfr⟩ := hpure rfl
        have hfr := hfr q hq
        obtain ⟨t1, t2, t3, ⟨n', t4, t5, t6⟩, arr, e, fz, t7, t8, t9⟩ := hs'.tok _ q hq
        have hk : Keep G.B w w' := Keep.of_below hbel hs.base
        have hid : G.bx st'.H.length = none := by
          cases hg : G.bx st'.H.length with
          | none => rfl
          | some g => exact absurd (SR_box_lt hs hg) (by simp [hH])
        have hx2 := Ext_newbox (id := st'.H.length) (w1 := w') hs (fun a ha => hk.cell ha) hid hfr
        refine ⟨G.box st'.H.length q.g, hx2, ?_, ?_⟩
        · refine SR_newbox (b := .cells (cs.map D.toT)) (st := { H := st'.H ++ [.cells (cs.map D.toT)], E := st.E }) (by rw [hH]; exact SR_more hs) hk t2 (Nat.le_trans hs.base hfr) hid (by simp) hx2 (fun i x hi => ?_) (fun j s hj => ?_) ⟨arr, e, fz, t7, ?_, t9, fun i c hc => ?_⟩
          · have := (hs.box i x hi).2.1; omega
          · have := (hs.tok j s hj).2.1; omega
          · have : n' = n := by rw [hE] at t4; simpa using t4.symm
            subst this
            simp only [List.length_map, hql, t8]
            exact Nat.mul_le_mul_right _ hcap
          · simp only [List.getElem?_map, Option.map_eq_some_iff] at hc
            obtain ⟨x, hxx, rfl⟩ := hc
            obtain ⟨_, u, h1, h2⟩ := DRL_get hD i x hxx
            rw [Nat.zero_add, Addr.add_none, Nat.zero_add, cell_of_block t7] at h1
            cases x with
            | flat v => refine ⟨rfl, u, h1, ?_⟩; unfold DR at h2; unfold D.toT VR; exact h2
            | slc nl n cs =>
              have := List.all_eq_true.1 hflat _ (List.mem_of_getElem? hxx)
              simp [D.isFlat] at this
        · simp only [Option.getD_some]
          unfold VR
          exact ⟨q.g, q.cap, by simp [Gh.box], rfl, hcap⟩
    · simp at h
      exact same h.1.symm h.2.symm
  · simp at h
    exact same h.1.symm h.2.symm

theorem append_box_ok {C : Cfg} {N : Nat} {fr : Fr} {a : Act} {st st' : St} {G : Gh} {w0 w : World} {t u ty : TypeId} {s x : Operand} {n : Nat} {cs : List D} (hf : FR N G st.E w fr a) (hs : SR st G w0 w)
    (h : appendOp C fr st t u s x = some (.sl false n cs (.tok st.E.length), st')) (hE : st'.E = st.E ++ [n]) :
    ∃ v w' G', (Builtin.append_ #[t, u] ty #[a.eval s, a.eval x]).run C.P w = .ok v w' ∧ Ext G st.E w G' st.E w' ∧ SR ⟨st.H ++ [.cells (cs.map D.toT)], st.E⟩ G' w0 w' ∧ VR G' st.E w' (.loc st.H.length 0 n n) v := by
  obtain ⟨v, w', G1, h1, _, _, _, _, _, hfr⟩ := append_ok (ty := ty) hf hs h
  obtain ⟨cap, arr, e, us, rfl, hcap, hk, hlt, hh, hsz, hD, hus⟩ := hfr n cs rfl hE
  have hid : G.bx st.H.length = none := by
    cases hg : G.bx st.H.length with
    | none => rfl
    | some g => exact absurd (SR_box_lt hs hg) (by simp)
  have hx2 := Ext_newbox (id := st.H.length) (w1 := w') hs (fun a ha => hk.cell ha) hid (Nat.le_refl w.heap.size)
  refine ⟨_, w', G.box st.H.length w.heap.size, h1, hx2, ?_, ?_⟩
  · refine SR_newbox (b := .cells (cs.map D.toT)) (st := { H := st.H ++ [.cells (cs.map D.toT)], E := st.E }) (SR_more hs) hk hlt hs.base hid (by simp) hx2 (fun i x hi => ?_) (fun j s hj => ?_) ⟨arr, e, (0, 0), hh, by simpa using hsz, .inl rfl, fun i c hc => ?_⟩
    · have := (hs.box i x hi).2.1; omega
    · have := (hs.tok j s hj).2.1; omega
    · simp only [List.getElem?_map, Option.map_eq_some_iff] at hc
      obtain ⟨y, hy, rfl⟩ := hc
      obtain ⟨uv, h3, h4⟩ := DRs_get (DRs_mono hx2.im hD) i y hy
      have h5 := hus i uv h3
      cases y with
      | flat q => refine ⟨rfl, uv, h5, ?_⟩; unfold DR at h4; unfold D.toT VR; exact h4
      | slc nl k ds =>
        refine ⟨rfl, uv, h5, ?_⟩
        unfold DR at h4
        unfold D.toT VR
        rcases h4 with h4 | ⟨q1, ad, q2, q3, q4, q5⟩
        · exact .inl h4
        · exact .inr ⟨q1, ad, q2, q3, q4, q5, by unfold OwR; trivial⟩
  · unfold VR
    exact ⟨w.heap.size, cap, by simp [Gh.box], rfl, hcap⟩

theorem toDs_get {ts : List T} {ds : List D} (h : T.toDs ts = some ds) : ds.length = ts.length ∧ ∀ (i : Nat) (d : D), ds[i]? = some d → ∃ t, ts[i]? = some t ∧ T.toD t = some d := by
  induction ts generalizing ds with
  | nil => simp [T.toDs] at h; subst h; exact ⟨rfl, fun i d h => by simp at h⟩
  | cons t ts ih =>
    simp only [T.toDs] at h
    split at h
    · rename_i x xs h1 h2
      simp at h; subst h
      obtain ⟨k1, k2⟩ := ih h2
      refine ⟨by simp [k1], fun i d hd => ?_⟩
      cases i with
      | zero => simp at hd; subst hd; exact ⟨t, by simp, h1⟩
      | succ i => simpa using k2 i d (by simpa using hd)
    · simp at h

theorem ice_ok {C : Cfg} {N : Nat} {fr : Fr} {a : Act} {st : St} {G : Gh} {w0 w : World} {o : Oper} {t : T} {K : Act → World → Prop} {Q : Exit → Act → World → Prop} (hf : FR N G st.E w fr a) (hs : SR st G w0 w)
    (h : iceT C o fr st = some t) (hK : Behind st st (some t) G w0 w o a K) : o.wp C.P a w K Q := by
  unfold iceT at h
  split at h
  · rename_i ts mk hal
    split at h
    · rename_i id n m hm
      split at h
      · rename_i hc
        obtain ⟨rfl, rfl⟩ := hc
        cases hd : T.toDs ts with
        | none => simp [hd] at h
        | some ds =>
          simp [hd] at h
          subst h
          have hid : G.bx st.H.length = none := by
            cases hg : G.bx st.H.length with
            | none => rfl
            | some g => exact absurd (SR_box_lt hs hg) (by simp)
          obtain ⟨v, w', G', h1, h2, h3, h4, h5, ob, h6⟩ := alloc_ok (C := C) (st := { st with H := st.H ++ [.cells ts] }) hf (SR_more hs) hal hid (by simp)
          have hk : Keep G.B w w' := by rw [h6]; exact keep_alloc ob hs.base
          refine Oper.wp_value h1 (hK v w' G (Ext_keep hk) (SR_keep hs hk) ?_)
          rw [hm] at h4
          unfold VR at h4
          obtain ⟨g, c, hg, rfl, hle⟩ := h4
          have hgw : g = w.heap.size := by
            rw [h5] at hg
            simp [Gh.box] at hg
            exact hg.symm
          subst hgw
          obtain ⟨b1, b2, b, hb, hR⟩ := h3.box _ _ hg
          have hb' : b = .cells ts := by simpa using hb.symm
          subst hb'
          obtain ⟨arr, e, fz, k1, k2, k3, k4⟩ := hR
          have imb : ∀ a, Im G' a → Im G a := by
            intro a ha
            rw [h5] at ha
            rcases ha with ha | ⟨a1, a2, a3⟩
            · exact .inl ha
            · refine .inr ⟨a1, fun i g hi => a2 i g ?_, a3⟩
              have : i ≠ st.H.length := by rintro rfl; rw [hid] at hi; cases hi
              simp [Gh.box, this, hi]
          obtain ⟨l1, l2⟩ := toDs_get hd
          simp only [Option.getD_some]
          unfold VR
          refine .inr ⟨rfl, _, _, rfl, hle, DRL_mk fun i x hx => ?_, trivial⟩
          obtain ⟨t, ht, hxt⟩ := l2 i x hx
          obtain ⟨_, u, hu, hvu⟩ := k4 i t ht
          refine ⟨.inr ⟨by rw [Addr.block_add]; exact hs.base, fun id' g' hg' => ?_, fun j r hr he => ?_⟩, u, ?_, DR_mono (fun a ha hs' => ⟨imb a ha, rfl⟩) _ _ (DR_toD hvu hxt)⟩
          · have := (hs.box id' g' hg').2.1
            rw [Addr.block_add]
            simp
            omega
          · have := (hs.tok j r hr).2.1
            rw [Addr.block_add] at he
            simp at he
            omega
          · rw [Nat.zero_add, Addr.add_none, Nat.zero_add, cell_of_block k1]
            exact hu
      · simp at h
    · simp at h
  · simp at h

theorem box_ok {C : Cfg} {N : Nat} {f : Nat} {fr : Fr} {a : Act} {st st' : St} {G : Gh} {w0 w : World} {o : Oper} {r : Option T} {K : Act → World → Prop} {Q : Exit → Act → World → Prop} (hf : FR N G st.E w fr a) (hs : SR st G w0 w)
    (h : boxT C f o st (opT C o fr st) = some (r, st')) (hK : Behind st st' r G w0 w o a K) : o.wp C.P a w K Q := by
  unfold boxT at h
  split at h
  · rename_i hfl
    simp only [Bool.and_eq_true] at hfl
    have hop := hfl.1
    unfold isApp at hop
    split at hop
    · rename_i c hc
      split at hop
      · rename_i hcal
        split at h
        · rename_i n cs k st1 hopT
          split at h
          · rename_i hcond
            obtain ⟨rfl, hE⟩ := hcond
            simp only [Option.some.injEq, Prod.mk.injEq] at h
            obtain ⟨rfl, rfl⟩ := h
            have hcl : clsOf o = .append := by unfold clsOf; rw [hc]; simp only [hcal]
            unfold opT at hopT
            rw [hcl] at hopT
            simp only [hc] at hopT
            split at hopT
            · rename_i s x t u has hts
              split at hopT
              · rename_i t' st2 hap
                simp only [Option.some.injEq, Prod.mk.injEq] at hopT
                obtain ⟨rfl, rfl⟩ := hopT
                obtain ⟨v, w', G', h1, h2, h3, h4⟩ := append_box_ok (ty := o.type) hf hs hap hE
                obtain ⟨callee, args, argTypes⟩ := c
                simp only at hcal has hts
                subst hcal
                obtain ⟨consts, he⟩ := exec_builtin (ρ := a.eval) hc
                refine Oper.wp_value (v := v) (w' := w') ?_ (hK v w' G' h2 h3 h4)
                have e1 : args = #[s, x] := by rw [← has]
                have e2 : argTypes = #[t, u] := by rw [← hts]
                rw [he, e1, e2]
                rw [show Array.map a.eval #[s, x] = #[a.eval s, a.eval x] by simp]
                unfold builtin
                simp only [Sem.run_bind, h1, Result.andThen_ok, Sem.run_pure]
              · simp at hopT
            · simp at hopT
          · simp at h
        · simp at h
      · exact absurd hop (by simp)
    · exact absurd hop (by simp)
  · exact opT_ok hf hs h hK

/-- One operation, calls too. -/
theorem op_ok {C : Cfg} {call : CallF} {f N : Nat} {fr : Fr} {a : Act} {st st' : St} {G : Gh} {w0 w : World} {o : Oper} {r : Option T} {K : Act → World → Prop} {Q : Exit → Act → World → Prop} (hcall : CallOK C call) (hf : FR N G st.E w fr a) (hs : SR st G w0 w)
    (h : doOp C call f o fr st = some (r, st')) (hK : Behind st st' r G w0 w o a K) : o.wp C.P a w K Q := by
  unfold doOp at h
  split at h
  · rename_i c hop
    split at h
    · rename_i x hcal
      split at h
      · rename_i g as hcl
        split at h
        · rename_i t st1 hc
          injection h with h
          obtain ⟨⟨fn, hfn, hname, hbody⟩, hrun⟩ := hcall g as st t st1 hc
          unfold calleeT at hcl
          simp only [hcal] at hcl
          split at hcl
          · rename_i g' first cap as' ho1 ho2
            simp at hcl
            obtain ⟨rfl, rfl⟩ := hcl
            have hv := VR_opd hf ho1
            unfold VR at hv
            obtain ⟨fs, cs, hv1, hv2, hv3⟩ := hv
            have hv4 := VRL_opds hf ho2
            have hex : (execOp a.eval o).run C.P w = .ok (.enter g' (fs ++ c.args.map a.eval ++ cs)) w := by
              unfold execOp
              rw [hop]
              simp only [Sem.run_bind, resolve, hcal, hv1, Deferred.ofValue, Sem.run_pure, Result.andThen_ok, invoke]
              exact run_callFunc hfn hname hbody
            refine Oper.wp_enter hex ((hrun G w0 w _ hs ?_).mono fun e w' hb => ?_)
            · rw [← List.append_assoc]
              simpa using VRL_append (VRL_append hv2 hv4) hv3
            · obtain ⟨v, G', rfl, h1, h2, h3, h4⟩ := hb
              obtain ⟨G2, k1, k2, k3⟩ := thaw_ok h hs h1 h2 h3 (fun hy => h4 (by simp at hy; exact hy.1))
              exact ⟨v, rfl, hK v w' G2 k1 k2 k3⟩
          · simp at hcl
        · simp at h
      · simp at h
    · exact box_ok hf hs h hK
  · split at h
    · cases hi : iceT C o fr st with
      | none => simp [hi] at h
      | some t =>
        simp [hi] at h
        obtain ⟨rfl, rfl⟩ := h
        exact ice_ok hf hs hi hK
    · exact opT_ok hf hs h hK
  · exact opT_ok hf hs h hK

end Go.Tm
end
section
set_option linter.unusedVariables false
set_option linter.unusedSimpArgs false
namespace Go.Tm
open Go Go.RowKit

/-- Where a piece of code has come to. -/
def After (N : Nat) (fr' : Fr) (st st' : St) (G : Gh) (w0 w : World) (df : List Deferred) (K : Act → World → Prop) : Prop :=
  ∀ a' w' G', a'.defers = df → Ext G st.E w G' st'.E w' → SR st' G' w0 w' → FR N G' st'.E w' fr' a' → K a' w'

theorem put_defers (a : Act) (d : Option Tmp) (v : Value) : (a.put d v).defers = a.defers := by cases d <;> rfl

theorem wanted_ok {N : Nat} {G : Gh} {E : List Nat} {w : World} {fr : Fr} {a : Act} {ops : Array Oper} {o : Oper} {b : Bool} (hf : FR N G E w fr a) (h : wantedT ops fr o = some b) : Region.wanted o (yielded ops a.tmps) = b := by
  unfold wantedT at h
  unfold Region.wanted
  split at h
  · rename_i hg; rw [hg]; simpa using h
  · rename_i j want hg
    rw [hg]
    simp only
    unfold yielded
    split at h
    · rename_i hd
      simp at h
      simp [hd, h]
    · rename_i s hd
      simp only [hd, Option.bind_some]
      split at h
      · rename_i b' hl
        simp at h
        obtain ⟨hlt, hv⟩ := hf.2 s _ hl
        unfold VR at hv
        have : a.tmps[s]? = some (.bool b') := by
          have h1 := hv.1
          simp only [Act.eval, Array.getD_eq_getD_getElem?] at h1
          rw [Array.getElem?_eq_getElem (by rw [hf.1]; exact hlt)] at h1 ⊢
          simpa using h1
        simp [this, h]
      · rename_i hl
        simp at h
        obtain ⟨hlt, hv⟩ := hf.2 s _ hl
        unfold VR at hv
        obtain ⟨vs, h1, h2⟩ := hv
        have : a.tmps[s]? = some (.tuple vs) := by
          simp only [Act.eval, Array.getD_eq_getD_getElem?] at h1
          rw [Array.getElem?_eq_getElem (by rw [hf.1]; exact hlt)] at h1 ⊢
          simpa using h1
        simp [this, ← h]
      · simp at h

theorem runOps_ok {C : Cfg} {call : CallF} {f N : Nat} {ops : Array Oper} {Q : Exit → Act → World → Prop} (hcall : CallOK C call) (hd : ∀ o ∈ ops.toList, ∀ d, o.dst = some d → d < N) {w0 : World} {fr' : Fr} {st' : St} :
    ∀ (os : List Oper) (k : Nat) (fr : Fr) (st : St) (a : Act) (G : Gh) (w : World), (∀ j, os[j]? = ops[k + j]?) → runOps C call f ops os fr st = some (fr', st') → FR N G st.E w fr a → SR st G w0 w →
      After N fr' st st' G w0 w a.defers (Q .normal) → wpOps C.P ops Q (List.range' k os.length) a w
  | [], k, fr, st, a, G, w, hos, h, hf, hs, hQ => by
    simp [runOps] at h
    obtain ⟨rfl, rfl⟩ := h
    exact hQ a w G rfl (Ext.refl _ _ _) hs hf
  | o :: os, k, fr, st, a, G, w, hos, h, hf, hs, hQ => by
    have h0 : ops[k]? = some o := by simpa using (hos 0).symm
    have hmem : o ∈ ops.toList := by
      rw [← Array.getElem?_toList] at h0
      exact List.mem_of_getElem? h0
    have hos' : ∀ j, os[j]? = ops[k + 1 + j]? := fun j => by have := hos (j + 1); simpa [Nat.add_assoc, Nat.add_comm 1 j] using this
    simp only [List.length_cons, List.range'_succ, wpOps, h0]
    simp only [runOps] at h
    split at h
    · rename_i hw
      rw [if_pos (wanted_ok hf hw)]
      split at h
      · rename_i r st1 hop
        refine .inl (op_ok hcall hf hs hop fun v w' G' h1 h2 h3 => ?_)
        refine runOps_ok hcall hd os (k + 1) _ st1 _ G' w' hos' h (FR_put (FR_mono h1 hf) (hd o hmem) h3) h2 ?_
        intro a2 w2 G2 e1 e2 e3 e4
        exact hQ a2 w2 G2 (by rw [e1, put_defers]) (h1.trans e2) e3 e4
      · simp at h
    · rename_i hw
      rw [if_neg (by rw [wanted_ok hf hw]; simp)]
      refine runOps_ok hcall hd os (k + 1) _ st _ G w hos' h (FR_put hf (hd o hmem) VR_undef) hs ?_
      intro a2 w2 G2 e1 e2 e3 e4
      exact hQ a2 w2 G2 (by rw [e1, put_defers]) e2 e3 e4
    · simp at h

/-! ### A drawn order -/
def Closed (ops : Array Oper) (D : Nat → Prop) : Prop := ∀ i o, ops[i]? = some o → D i → ∀ e ∈ o.after.toList, Region.binds .any e = true → D e.on
/-- j stands before i in every order. -/
def Bef (ops : Array Oper) (j i : Nat) : Prop := ∀ D, Closed ops D → D i → D j

theorem mask_fold {ops : Array Oper} {k j : Nat} {acc : List Nat} (hacc : ∀ i j, (acc.getD i 0).testBit j = true → Bef ops j i) {o : Oper} (hk : ops[k]? = some o) :
    ∀ (es : List Edge) (m : Nat), (∀ e ∈ es, e ∈ o.after.toList) → (m.testBit j = true → Bef ops j k) →
      (es.foldl (fun m e => if Region.binds .any e then m ||| 2 ^ e.on ||| acc.getD e.on 0 else m) m).testBit j = true → Bef ops j k
  | [], m, _, hm, h => hm h
  | e :: es, m, hes, hm, h => by
    rw [List.foldl_cons] at h
    refine mask_fold hacc hk es _ (fun e he => hes e (List.mem_cons_of_mem _ he)) (fun hj => ?_) h
    split at hj
    · rename_i hb
      simp only [Nat.testBit_or, Bool.or_eq_true] at hj
      rcases hj with (hj | hj) | hj
      · exact hm hj
      · rw [Nat.testBit_two_pow] at hj
        simp at hj
        subst hj
        exact fun D hD hk' => hD k o hk hk' e (hes e (by simp)) hb
      · exact fun D hD hk' => hacc _ _ hj D hD (hD k o hk hk' e (hes e (by simp)) hb)
    · exact hm hj

theorem ancs_ok {ops : Array Oper} : ∀ (os : List Oper) (acc : List Nat), (∀ j, os[j]? = ops[acc.length + j]?) → (∀ i j, (acc.getD i 0).testBit j = true → Bef ops j i) →
    ∀ i j, ((ancs os acc).getD i 0).testBit j = true → Bef ops j i
  | [], acc, _, hacc, i, j, h => hacc i j h
  | o :: os, acc, hos, hacc, i, j, h => by
    refine ancs_ok os (acc ++ [maskOf o acc]) (fun j => ?_) (fun i j hj => ?_) i j h
    · have := hos (j + 1)
      simpa [Nat.add_assoc, Nat.add_comm 1 j] using this
    · by_cases hi : i < acc.length
      · rw [List.getD_eq_getElem?_getD, List.getElem?_append_left hi, ← List.getD_eq_getElem?_getD] at hj
        exact hacc i j hj
      · by_cases he : i = acc.length
        · subst he
          simp at hj
          exact mask_fold hacc (by simpa using (hos 0).symm) o.after.toList 0 (fun _ h => h) (by simp) hj
        · rw [List.getD_eq_getElem?_getD, List.getElem?_eq_none (by simp; omega)] at hj
          simp at hj

/-- What 'drawOK' says. -/
structure Drawn (C : Cfg) (f : Nat) (ops : Array Oper) : Prop where
  lt : ∀ i o, ops[i]? = some o → ∀ e ∈ o.after.toList, Region.binds .any e = true → e.on < i
  slot : ∀ (i j : Nat) (o p : Oper) (t : Nat), ops[i]? = some o → ops[j]? = some p → i ≠ j → p.dst = some t → t ∈ o.looksAt ops → Bef ops i j ∨ Bef ops j i
  dst : ∀ (i j : Nat) (o p : Oper) (t : Nat), ops[i]? = some o → ops[j]? = some p → p.dst = some t → o.dst = some t → i = j
  anch : ∀ (i j : Nat) (o p : Oper), ops[i]? = some o → ops[j]? = some p → i < j → isAnchor o = true → isAnchor p = true → Bef ops i j
  rd : ∀ (i j : Nat) (o p : Oper), ops[i]? = some o → ops[j]? = some p → clsOf o = .reads → isAnchor p = true → fixH C f p = false → Bef ops i j ∨ Bef ops j i

theorem drawn_of {C : Cfg} {f : Nat} {ops : Array Oper} (h : drawOK C f ops = true) : Drawn C f ops := by
  have hb : ∀ i j, befB (ancs ops.toList []) i j = true → Bef ops i j := fun i j h => ancs_ok ops.toList [] (fun j => by simp) (fun i j h => by simp at h) j i h
  unfold drawOK at h
  simp only [List.all_eq_true, List.mem_range] at h
  have one : ∀ i o, ops[i]? = some o → i < ops.size := fun i o ho => by
    rcases Nat.lt_or_ge i ops.size with h | h
    · exact h
    · simp [Array.getElem?_eq_none h] at ho
  have hi : ∀ i o, ops[i]? = some o → (o.after.toList.all fun e => !Region.binds .any e || decide (e.on < i)) = true ∧ ∀ j p, ops[j]? = some p → i ≠ j → pairOK C f ops (ancs ops.toList []) i j o p = true := by
    intro i o ho
    have h1 := h i (one i o ho)
    simp only [ho, Bool.and_eq_true, List.all_eq_true, List.mem_range] at h1
    refine ⟨List.all_eq_true.2 h1.1, fun j p hp hne => ?_⟩
    have h2 := h1.2 j (one j p hp)
    simp only [hp, Bool.or_eq_true, beq_iff_eq] at h2
    exact h2.resolve_left hne
  refine ⟨fun i o ho e he hbd => ?_, fun i j o p t ho hp hne hd ht => ?_, fun i j o p t ho hp hd hd' => ?_, fun i j o p ho hp hlt ha hb' => ?_, fun i j o p ho hp hc ha hx => ?_⟩
  · have := List.all_eq_true.1 (hi i o ho).1 e he
    simpa [hbd] using this
  · have := (hi i o ho).2 j p hp hne
    simp only [pairOK, hd, Bool.and_eq_true] at this
    have h1 := this.1.1.1
    simp only [List.contains_iff_mem, ht, decide_true, Bool.not_true, Bool.false_or, Bool.or_eq_true, Bool.not_eq_true', decide_eq_false_iff_not, not_true, false_or] at h1
    rcases h1 with h1 | h1
    · rcases h1 with h1 | h1
      · simp [ht] at h1
      · exact .inl (hb _ _ h1)
    · exact .inr (hb _ _ h1)
  · by_cases hne : i = j
    · exact hne
    · have := (hi i o ho).2 j p hp hne
      simp [pairOK, hd, hd'] at this
  · have := (hi i o ho).2 j p hp (by omega)
    simp only [pairOK, Bool.and_eq_true, ha, hb', hlt, decide_true, Bool.and_self, Bool.not_true, Bool.false_or] at this
    exact hb _ _ this.1.2
  · by_cases hne : i = j
    · subst hne
      rw [ho] at hp; injection hp with hp; subst hp
      simp [isAnchor, hc] at ha
    · have := (hi i o ho).2 j p hp hne
      simp only [pairOK, Bool.and_eq_true, ha, hx, hc, decide_true, Bool.and_self, Bool.not_true, Bool.not_false, Bool.false_or, Bool.or_eq_true] at this
      rcases this.2 with h | h
      · exact .inl (hb _ _ h)
      · exact .inr (hb _ _ h)

end Go.Tm
end
section
set_option linter.unusedVariables false
set_option linter.unusedSimpArgs false
namespace Go.Tm
open Go Go.RowKit

/-- The calls that leave the boxes alone. -/
def CallH (C : Cfg) (call : CallF) : Prop := ∀ g as st r st', (C.pure g = true ∨ (C.prim g).isSome = true) → call g as st = some (r, st') → st'.H = st.H

theorem quietT_H {C : Cfg} {o : Oper} {fr : Fr} (h : clsOf o = .quiet) (H H' : List Box) : quietT C o fr H = quietT C o fr H' := by
  unfold clsOf at h
  unfold quietT
  split <;> simp_all
  all_goals (split <;> simp_all)

theorem appendOp_H {C : Cfg} {fr : Fr} {st st' : St} {t u : TypeId} {s x : Operand} {r : T} (h : appendOp C fr st t u s x = some (r, st')) : st'.H = st.H := by
  unfold appendOp at h
  repeat' (first | split at h | (simp at h; done) | (simp at h; rw [← h.2]))

theorem fixH_ok {C : Cfg} {call : CallF} {f : Nat} {fr : Fr} {st st' : St} {o : Oper} {r : Option T} (hH : CallH C call) (hx : fixH C f o = true) (h : doOp C call f o fr st = some (r, st')) : st'.H = st.H := by
  have pl : opT C o fr st = some (r, st') → st'.H = st.H := by
    intro h
    unfold opT at h
    unfold fixH at hx
    split at h
    · split at h <;> simp at h; rw [← h.2]
    · split at h <;> simp at h; rw [← h.2]
    · rename_i hc; simp [hc] at hx
    · rename_i hc; simp [hc] at hx
    · split at h
      · split at h
        · split at h
          · rename_i hap
            simp at h
            obtain ⟨_, rfl⟩ := h
            exact appendOp_H hap
          · simp at h
        · simp at h
      · simp at h
    · simp at h
  unfold doOp at h
  split at h
  · rename_i c hop
    split at h
    · rename_i x hcal
      have hcl : clsOf o = .call := by unfold clsOf; rw [hop]; simp only [hcal]
      unfold fixH at hx
      rw [hcl, hop] at hx
      simp only [hcal] at hx
      split at hx
      · rename_i g hg
        have hg : x = .func g := by simpa using hg
        subst hg
        split at h
        · rename_i g' as hcT
          have hgg : g' = g := by
            unfold calleeT at hcT
            simp only [hcal, opd] at hcT
            split at hcT
            · rename_i h1 h2
              simp at h1 hcT
              omega
            · simp at hcT
          subst hgg
          split at h
          · rename_i t st1 hc
            simp only [Bool.and_eq_true, Bool.or_eq_true, Bool.not_eq_true'] at hx
            have h1 := hH _ _ _ _ _ hx.1 hc
            injection h with h
            rw [hx.2, Bool.and_false] at h
            unfold thawT at h
            simp at h
            rw [← h.2]
            exact h1
          · simp at h
        · simp at h
      · simp at hx
    · unfold boxT at h
      split at h
      · rename_i hfl
        simp only [Bool.and_eq_true] at hfl
        obtain ⟨h1, h2⟩ := hfl
        unfold isApp at h1
        rw [hop] at h1
        simp only at h1
        split at h1
        · rename_i hcal
          have hcl : clsOf o = .append := by unfold clsOf; rw [hop]; simp only [hcal]
          unfold fixH at hx
          rw [hcl] at hx
          simp [h2] at hx
        · exact absurd h1 (by simp)
      · exact pl h
  · split at h
    · rename_i hop _
      have : clsOf o = .alloc := by unfold clsOf; rw [hop]
      unfold fixH at hx
      rw [this] at hx
      simp at hx
    · exact pl h
  · exact pl h

theorem lookF_keep_mem {ks : List Nat} {fr : Fr} {s : Nat} {t : T} (h : lookF (keepF ks fr) s = some t) : s ∈ ks := by
  unfold keepF at h
  induction ks with
  | nil => simp [lookF] at h
  | cons k ks ih =>
    rw [List.filterMap_cons] at h
    cases hk : lookF fr k with
    | none => simp [hk] at h; exact List.mem_cons_of_mem _ (ih (by simpa using h))
    | some x =>
      simp [hk, lookF] at h
      split at h
      · rename_i e; subst e; simp
      · exact List.mem_cons_of_mem _ (ih (by simpa using h))

/-- The run in the order of the text, step for step. -/
structure Traj (C : Cfg) (call : CallF) (f : Nat) (ops : Array Oper) (F : Nat → Fr) (S : Nat → St) (R : Nat → T) : Prop where
  step : ∀ i o, ops[i]? = some o → stepAny C call f ops o (F i) (S i) = some (R i, S (i + 1)) ∧ F (i + 1) = putF (F i) o.dst (R i)

theorem runAny_traj {C : Cfg} {call : CallF} {f : Nat} {ops : Array Oper} : ∀ (os : List Oper) (fr : Fr) (st : St) (frn : Fr) (stn : St), runAny C call f ops os fr st = some (frn, stn) →
    ∃ (F : Nat → Fr) (S : Nat → St) (R : Nat → T), F 0 = fr ∧ S 0 = st ∧ F os.length = frn ∧ S os.length = stn ∧
      ∀ i o, os[i]? = some o → stepAny C call f ops o (F i) (S i) = some (R i, S (i + 1)) ∧ F (i + 1) = putF (F i) o.dst (R i)
  | [], fr, st, frn, stn, h => by
    simp [runAny] at h
    obtain ⟨rfl, rfl⟩ := h
    exact ⟨fun _ => fr, fun _ => st, fun _ => undefT, rfl, rfl, rfl, rfl, fun i o h => by simp at h⟩
  | o :: os, fr, st, frn, stn, h => by
    simp only [runAny] at h
    split at h
    · rename_i r st' hst
      obtain ⟨F, S, R, h1, h2, h3, h4, h5⟩ := runAny_traj os _ _ _ _ h
      refine ⟨fun i => match i with | 0 => fr | i + 1 => F i, fun i => match i with | 0 => st | i + 1 => S i, fun i => match i with | 0 => r | i + 1 => R i, rfl, rfl, h3, h4, fun i p hp => ?_⟩
      cases i with
      | zero =>
        simp at hp
        subst hp
        exact ⟨by simp only [h2]; exact hst, by simp only [h1]⟩
      | succ i => exact h5 i p (by simpa using hp)
    · simp at h

section
variable {C : Cfg} {call : CallF} {f N : Nat} {ops : Array Oper} {F : Nat → Fr} {S : Nat → St} {R : Nat → T}

theorem step_same {i : Nat} {o : Oper} (hT : Traj C call f ops F S R) (ho : ops[i]? = some o) (ha : isAnchor o = false) : S (i + 1) = S i := by
  have := (hT.step i o ho).1
  unfold stepAny at this
  unfold isAnchor at ha
  split at this
  · split at this
    · simp at this; obtain ⟨_, _, _, h⟩ := this; exact h.symm
    · simp at this; obtain ⟨_, _, _, h⟩ := this; exact h.symm
    · rename_i h1 h2
      split at ha
      · rename_i h; exact absurd h h1
      · rename_i h; exact absurd h h2
      · simp at ha
  · simp at this; exact this.2.symm
  · simp at this

theorem fix_of_not {o : Oper} (ha : isAnchor o = false) : fixH C f o = true := by
  unfold isAnchor at ha
  unfold fixH
  split at ha
  · rename_i h; rw [h]
  · rename_i h; rw [h]
  · simp at ha

theorem step_H {i : Nat} {o : Oper} (hH : CallH C call) (hT : Traj C call f ops F S R) (ho : ops[i]? = some o) (ha : fixH C f o = true) : (S (i + 1)).H = (S i).H := by
  by_cases hn : isAnchor o = false
  · rw [step_same hT ho hn]
  · have := (hT.step i o ho).1
    unfold stepAny at this
    split at this
    · split at this
      · simp at this; obtain ⟨_, _, _, h⟩ := this; rw [← h]
      · simp at this; obtain ⟨_, _, _, h⟩ := this; rw [← h]
      · simp at this
        obtain ⟨r, h1, h2⟩ := this
        exact fixH_ok hH ha h1
    · simp at this; rw [← this.2]
    · simp at this

theorem S_same {x : Nat} (hT : Traj C call f ops F S R) : ∀ (k : Nat), x + k ≤ ops.size → (∀ j o, x ≤ j → j < x + k → ops[j]? = some o → isAnchor o = false) → S (x + k) = S x
  | 0, _, _ => rfl
  | k + 1, hn, h => by
    have h1 := S_same (x := x) hT k (by omega) fun j o h1 h2 => h j o h1 (by omega)
    have hlt : x + k < ops.size := by omega
    have := step_same hT (Array.getElem?_eq_getElem hlt) (h (x + k) _ (by omega) (by omega) (Array.getElem?_eq_getElem hlt))
    rw [← h1, ← this, Nat.add_assoc]

theorem S_H {x : Nat} (hH : CallH C call) (hT : Traj C call f ops F S R) : ∀ (k : Nat), x + k ≤ ops.size → (∀ j o, x ≤ j → j < x + k → ops[j]? = some o → fixH C f o = true) → (S (x + k)).H = (S x).H
  | 0, _, _ => rfl
  | k + 1, hn, h => by
    have h1 := S_H (x := x) hH hT k (by omega) fun j o h1 h2 => h j o h1 (by omega)
    have hlt : x + k < ops.size := by omega
    have := step_H hH hT (Array.getElem?_eq_getElem hlt) (h (x + k) _ (by omega) (by omega) (Array.getElem?_eq_getElem hlt))
    rw [← h1, ← this, Nat.add_assoc]

theorem look_base (hT : Traj C call f ops F S R) {t : Nat} : ∀ (i : Nat), i ≤ ops.size → (∀ j o, j < i → ops[j]? = some o → o.dst ≠ some t) → lookF (F i) t = lookF (F 0) t
  | 0, _, _ => rfl
  | i + 1, hn, h => by
    have hlt : i < ops.size := by omega
    have ho := Array.getElem?_eq_getElem hlt
    rw [(hT.step i _ ho).2, lookF_put, if_neg (h i _ (by omega) ho)]
    exact look_base hT i (by omega) fun j o hj => h j o (by omega)

theorem look_put (hT : Traj C call f ops F S R) (hdr : Drawn C f ops) {t j : Nat} {p : Oper} (hp : ops[j]? = some p) (hd : p.dst = some t) : ∀ (i : Nat), i ≤ ops.size → j < i → lookF (F i) t = some (R j)
  | 0, _, h => by omega
  | i + 1, hn, h => by
    have hlt : i < ops.size := by omega
    have ho := Array.getElem?_eq_getElem hlt
    rw [(hT.step i _ ho).2, lookF_put]
    by_cases hij : i = j
    · subst hij
      rw [ho] at hp; injection hp with hp
      rw [hp, if_pos hd]
    · rw [if_neg fun h' => hij (hdr.dst i j _ p t ho hp hd h')]
      exact look_put hT hdr hp hd i (by omega) (by omega)
end

end Go.Tm
end
section
set_option linter.unusedVariables false
set_option linter.unusedSimpArgs false
namespace Go.Tm
open Go Go.RowKit

section
variable {C : Cfg} {call : CallF} {f N : Nat} {ops : Array Oper} {F : Nat → Fr} {S : Nat → St} {R : Nat → T} {G0 : Gh} {w0 w1 : World} {df : List Deferred} {Q : Exit → Act → World → Prop}

/-- Where a run stands that has come up with the operations D. -/
def DI (N : Nat) (ops : Array Oper) (F : Nat → Fr) (S : Nat → St) (R : Nat → T) (G0 : Gh) (w0 w1 : World) (df : List Deferred) (D : Nat → Prop) (a : Act) (w : World) : Prop :=
  ∃ (m : Nat) (G : Gh), (∀ j o, ops[j]? = some o → isAnchor o = true → (D j ↔ j < m)) ∧ m ≤ ops.size ∧ Ext G0 (S 0).E w1 G (S m).E w ∧ SR (S m) G w0 w ∧ a.tmps.size = N ∧ a.defers = df ∧
    (∀ j o t, ops[j]? = some o → D j → o.dst = some t → VR G (S m).E w (R j) (a.eval (.tmp t))) ∧
    (∀ t v, (∀ j o, ops[j]? = some o → D j → o.dst ≠ some t) → lookF (F 0) t = some v → t < N ∧ VR G (S m).E w v (a.eval (.tmp t)))

theorem eval_put_self {a : Act} {t : Nat} {v : Value} (h : t < a.tmps.size) : (a.put (some t) v).eval (.tmp t) = v := by
  simp [Act.eval, Act.put, h]
theorem eval_put_ne {a : Act} {d : Option Tmp} {t : Nat} {v : Value} (h : d ≠ some t) : (a.put d v).eval (.tmp t) = a.eval (.tmp t) := by
  cases d with
  | none => rfl
  | some d =>
    have hne : d ≠ t := fun e => h (by rw [e])
    simp [Act.eval, Act.put, Array.getElem?_setIfInBounds_ne hne]
theorem size_put {a : Act} {d : Option Tmp} {v : Value} : (a.put d v).tmps.size = a.tmps.size := by cases d <;> simp [Act.put]

theorem DI_put {D : Nat → Prop} {a : Act} {w w' : World} {i m m' : Nat} {o : Oper} {G G' : Gh} {v : Value} (hdr : Drawn C f ops) (ho : ops[i]? = some o) (hd : ∀ d, o.dst = some d → d < N)
    (hm : ∀ j o, ops[j]? = some o → isAnchor o = true → (D j ∨ j = i ↔ j < m')) (hle : m' ≤ ops.size) (h0 : Ext G0 (S 0).E w1 G (S m).E w) (hx : Ext G (S m).E w G' (S m').E w') (hs : SR (S m') G' w0 w') (hN : a.tmps.size = N) (hdf : a.defers = df)
    (hR : ∀ j o t, ops[j]? = some o → D j → o.dst = some t → VR G (S m).E w (R j) (a.eval (.tmp t))) (hB : ∀ t v, (∀ j o, ops[j]? = some o → D j → o.dst ≠ some t) → lookF (F 0) t = some v → t < N ∧ VR G (S m).E w v (a.eval (.tmp t)))
    (hv : VR G' (S m').E w' (R i) v) (hi : ¬ D i) : DI N ops F S R G0 w0 w1 df (fun j => D j ∨ j = i) (a.put o.dst v) w' := by
  refine ⟨m', G', hm, hle, h0.trans hx, hs, by rw [size_put, hN], by rw [put_defers, hdf], fun j p t hp hj ht => ?_, fun t u hno hl => ?_⟩
  · rcases hj with hj | rfl
    · have hne : j ≠ i := fun e => hi (e ▸ hj)
      rw [eval_put_ne fun h => hne (hdr.dst j i p o t hp ho h ht)]
      exact VR_mono hx _ _ (hR j p t hp hj ht)
    · rw [ho] at hp; injection hp with hp; subst hp
      rw [ht, eval_put_self (by rw [hN]; exact hd t ht)]
      exact hv
  · obtain ⟨k1, k2⟩ := hB t u (fun j p hp hj => hno j p hp (.inl hj)) hl
    exact ⟨k1, by rw [eval_put_ne (hno i o ho (.inr rfl))]; exact VR_mono hx _ _ k2⟩

theorem draw_step {D : Nat → Prop} {a : Act} {w : World} {i : Nat} {o : Oper} {K : Act → World → Prop} (hcall : CallOK C call) (hH : CallH C call) (hdr : Drawn C f ops) (hT : Traj C call f ops F S R) (hcl : Closed ops D) (ho : ops[i]? = some o) (hi : ¬ D i)
    (haft : ∀ e ∈ o.after.toList, Region.binds .any e = true → D e.on) (hd' : ∀ (j : Nat) (p : Oper), ops[j]? = some p → ∀ d, p.dst = some d → d < N) (hI : DI N ops F S R G0 w0 w1 df D a w) (hK : ∀ a' w', DI N ops F S R G0 w0 w1 df (fun j => D j ∨ j = i) a' w' → K a' w') : wpOp C.P ops Q i K a w := by
  have hd := hd' i o ho
  have hin : i < ops.size := by
    rcases Nat.lt_or_ge i ops.size with h | h
    · exact h
    · simp [Array.getElem?_eq_none h] at ho
  obtain ⟨m, G, hm, hmn, hx, hs, hN, hdf, hR, hB⟩ := hI
  have clD : Closed ops (fun j => D j ∨ j = i) := by
    intro j p hp hj e he hb
    rcases hj with hj | rfl
    · exact .inl (hcl j p hp hj e he hb)
    · rw [ho] at hp; injection hp with hp; subst hp
      exact .inl (haft e he hb)
  have clLe : ∀ k, Closed ops (fun j => j ≤ k) := fun k j p hp hj e he hb => by
    have := hdr.lt j p hp e he hb
    omega
  have befI : ∀ j, j ≠ i → Bef ops j i → D j ∧ j < i := fun j hne h => by
    have h1 := h _ clD (.inr rfl)
    have h2 := h _ (clLe i) (Nat.le_refl i)
    exact ⟨h1.resolve_right hne, by omega⟩
  have iBef : ∀ j, j ≠ i → Bef ops i j → ¬ D j ∧ i < j := fun j hne h => by
    refine ⟨fun hj => hi (h _ hcl hj), ?_⟩
    have h2 := h _ (clLe j) (Nat.le_refl j)
    omega
  -- the frame
  have hfr : FR N G (S m).E w (keepF (o.looksAt ops) (F i)) a := by
    refine ⟨hN, fun t v hl => ?_⟩
    have hmem := lookF_keep_mem hl
    have hl := lookF_keep hl
    have base : (∀ (j : Nat) (p : Oper), j < i → ops[j]? = some p → p.dst ≠ some t) → (∀ (j : Nat) (p : Oper), ops[j]? = some p → D j → p.dst ≠ some t) → t < N ∧ VR G (S m).E w v (a.eval (.tmp t)) := fun h1 h2 => by
      rw [look_base hT i (by omega) h1] at hl
      exact hB t v h2 hl
    by_cases hex : ∃ (j : Nat) (p : Oper), ops[j]? = some p ∧ p.dst = some t
    · obtain ⟨j, p, hp, hpd⟩ := hex
      have uniq : ∀ (k : Nat) (q : Oper), ops[k]? = some q → q.dst = some t → k = j := fun k q hq hqd => hdr.dst k j q p t hq hp hpd hqd
      by_cases hji : j = i
      · subst hji
        exact base (fun k q hk hq hqd => by have := uniq k q hq hqd; omega) (fun k q hq hDk hqd => hi (uniq k q hq hqd ▸ hDk))
      · rcases hdr.slot i j o p t ho hp (Ne.symm hji) hpd hmem with h | h
        · obtain ⟨h1, h2⟩ := iBef j hji h
          exact base (fun k q hk hq hqd => by have := uniq k q hq hqd; omega) (fun k q hq hDk hqd => h1 (uniq k q hq hqd ▸ hDk))
        · obtain ⟨h1, h2⟩ := befI j hji h
          rw [look_put hT hdr hp hpd i (by omega) h2] at hl
          injection hl with hl; subst hl
          have hv := hR j p t hp h1 hpd
          exact ⟨hd' j p hp t hpd, hv⟩
    · exact base (fun j p _ hp hpd => hex ⟨j, p, hp, hpd⟩) (fun j p hp _ hpd => hex ⟨j, p, hp, hpd⟩)
  -- its place among the anchors
  have anchor : isAnchor o = true → S i = S m ∧ ∀ j p, ops[j]? = some p → isAnchor p = true → (D j ∨ j = i ↔ j < i + 1) := by
    intro ha
    have hmi : m ≤ i := by
      rcases Nat.lt_or_ge i m with h | h
      · exact absurd ((hm i o ho ha).2 h) hi
      · exact h
    have lower : ∀ j p, ops[j]? = some p → isAnchor p = true → j < i → D j := fun j p hp hpa hlt => (befI j (by omega) (hdr.anch j i p o hp ho hlt hpa ha)).1
    refine ⟨?_, fun j p hp hpa => ⟨fun h => ?_, fun h => ?_⟩⟩
    · have := S_same (x := m) hT (i - m) (by omega) fun j p h1 h2 hp => by
        cases hpa : isAnchor p with
        | false => rfl
        | true =>
          have := (hm j p hp hpa).1 (lower j p hp hpa (by omega))
          omega
      rwa [show m + (i - m) = i by omega] at this
    · rcases h with h | h
      · have := (hm j p hp hpa).1 h
        omega
      · omega
    · by_cases hji : j = i
      · exact .inr hji
      · exact .inl (lower j p hp hpa (by omega))
  have floater : isAnchor o = false → ∀ j p, ops[j]? = some p → isAnchor p = true → (D j ∨ j = i ↔ j < m) := by
    intro ha j p hp hpa
    have hne : j ≠ i := by rintro rfl; rw [ho] at hp; injection hp with hp; subst hp; rw [ha] at hpa; cases hpa
    rw [← hm j p hp hpa]
    exact ⟨fun h => h.resolve_right hne, .inl⟩
  have reads : clsOf o = .reads → (S i).H = (S m).H := by
    intro hc
    have hna : isAnchor o = false := by unfold isAnchor; rw [hc]
    have fx : ∀ j p, ops[j]? = some p → (isAnchor p = true → (D j ∧ i ≤ j) ∨ (¬ D j ∧ j ≤ i)) → fixH C f p = true := by
      intro j p hp h
      cases hpa : isAnchor p with
      | false => exact fix_of_not hpa
      | true =>
        cases hfx : fixH C f p with
        | true => rfl
        | false =>
          have hne : j ≠ i := by rintro rfl; rw [ho] at hp; injection hp with hp; subst hp; rw [hna] at hpa; cases hpa
          exfalso
          rcases hdr.rd i j o p ho hp hc hpa hfx with h1 | h1
          · obtain ⟨k1, k2⟩ := iBef j hne h1
            rcases h hpa with ⟨h2, h3⟩ | ⟨h2, h3⟩
            · exact k1 h2
            · omega
          · obtain ⟨k1, k2⟩ := befI j hne h1
            rcases h hpa with ⟨h2, h3⟩ | ⟨h2, h3⟩
            · omega
            · exact h2 k1
    rcases Nat.le_total m i with h | h
    · have := S_H (x := m) hH hT (i - m) (by omega) fun j p h1 h2 hp => fx j p hp fun hpa => .inr ⟨fun hj => by have := (hm j p hp hpa).1 hj; omega, by omega⟩
      rwa [show m + (i - m) = i by omega] at this
    · have := S_H (x := i) hH hT (m - i) (by omega) fun j p h1 h2 hp => fx j p hp fun hpa => .inl ⟨(hm j p hp hpa).2 (by omega), h1⟩
      rw [show i + (m - i) = m by omega] at this
      exact this.symm
  have hst := (hT.step i o ho).1
  unfold wpOp
  simp only [ho]
  unfold stepAny at hst
  split at hst
  · rename_i hw
    rw [if_pos (wanted_ok hfr hw)]
    refine .inl ?_
    have quiet : isAnchor o = false → quietT C o (keepF (o.looksAt ops) (F i)) (S m).H = some (R i) → o.wp C.P a w K Q := by
      intro ha hq
      obtain ⟨v, w', h1, h2, h3⟩ := quiet_ok hfr hs hq
      exact Oper.wp_value h1 (hK _ _ (DI_put hdr ho hd (floater ha) hmn hx (Ext_keep h2) (SR_keep hs h2) hN hdf hR hB h3 hi))
    split at hst
    · rename_i hc
      simp at hst
      obtain ⟨t, h1, h2, h3⟩ := hst
      exact quiet (by unfold isAnchor; rw [hc]) (by rw [quietT_H hc _ [], h1, h2])
    · rename_i hc
      simp at hst
      obtain ⟨t, h1, h2, h3⟩ := hst
      exact quiet (by unfold isAnchor; rw [hc]) (by rw [← reads hc, h1, h2])
    · rename_i hc1 hc2
      have ha : isAnchor o = true := by
        unfold isAnchor
        split
        · rename_i h; exact absurd h hc1
        · rename_i h; exact absurd h hc2
        · rfl
      obtain ⟨e1, e2⟩ := anchor ha
      cases hdo : doOp C call f o (keepF (o.looksAt ops) (F i)) (S i) with
      | none => simp [hdo] at hst
      | some q =>
        obtain ⟨r, s'⟩ := q
        simp only [hdo, Option.map_some, Option.some.injEq, Prod.mk.injEq] at hst
        obtain ⟨h1, h2⟩ := hst
        rw [e1] at hdo
        refine op_ok hcall hfr hs hdo fun v w' G' k1 k2 k3 => hK _ _ (DI_put (m' := i + 1) hdr ho hd e2 (by omega) hx (by rw [← h2]; exact k1) (by rw [← h2]; exact k2) hN hdf hR hB (by rw [← h2, ← h1]; exact k3) hi)
  · rename_i hw
    rw [if_neg (by rw [wanted_ok hfr hw]; simp)]
    simp at hst
    obtain ⟨h1, h2⟩ := hst
    by_cases ha : isAnchor o = true
    · obtain ⟨e1, e2⟩ := anchor ha
      refine hK _ _ (DI_put (m' := i + 1) hdr ho hd e2 (by omega) hx (G' := G) (w' := w) (by rw [← h2, e1]; exact Ext.refl _ _ _) (by rw [← h2, e1]; exact hs) hN hdf hR hB (by rw [← h1]; exact VR_undef) hi)
    · simp at ha
      exact hK _ _ (DI_put hdr ho hd (floater ha) hmn hx (Ext.refl _ _ _) hs hN hdf hR hB (by rw [← h1]; exact VR_undef) hi)
  · simp at hst
end

end Go.Tm
end
section
set_option linter.unusedVariables false
set_option linter.unusedSimpArgs false
namespace Go.Tm
open Go Go.RowKit

theorem countP_lt {p q : Nat → Bool} : ∀ (l : List Nat) (i : Nat), (∀ j, q j = true → p j = true) → i ∈ l → p i = true → q i = false → l.countP q < l.countP p
  | [], i, _, hi, _, _ => by simp at hi
  | x :: l, i, h, hi, hp, hq => by
    have le : ∀ l : List Nat, l.countP q ≤ l.countP p := fun l => List.countP_mono_left fun j _ => h j
    simp only [List.countP_cons]
    rcases List.mem_cons.1 hi with rfl | hi
    · have := le l
      simp [hp, hq]
      omega
    · have := countP_lt l i h hi hp hq
      cases hx : q x with
      | true => simp [h x hx]; exact this
      | false => cases p x <;> simp <;> omega

section
variable {C : Cfg} {call : CallF} {f N : Nat} {ops : Array Oper} {F : Nat → Fr} {S : Nat → St} {R : Nat → T} {G0 : Gh} {w0 w1 : World} {df : List Deferred} {Q : Exit → Act → World → Prop}

def LS (listed : Array Bool) (j : Nat) : Prop := listed.getD j false = true

theorem LS_rep {n j : Nat} : ¬ LS (Array.replicate n false) j := by
  unfold LS
  rw [Array.getD_eq_getD_getElem?, Array.getElem?_replicate]
  split <;> simp

theorem DI_congr {D D' : Nat → Prop} {a : Act} {w : World} (h : ∀ j, D j ↔ D' j) (hI : DI N ops F S R G0 w0 w1 df D a w) : DI N ops F S R G0 w0 w1 df D' a w := by
  have : D = D' := funext fun j => propext (h j)
  rw [← this]; exact hI

theorem any_ok (hcall : CallOK C call) (hH : CallH C call) (hdr : Drawn C f ops) (hT : Traj C call f ops F S R) (hd : ∀ (j : Nat) (p : Oper), ops[j]? = some p → ∀ d, p.dst = some d → d < N)
    (hfin : ∀ a w D, (∀ j, j < ops.size → D j) → DI N ops F S R G0 w0 w1 df D a w → Q .normal a w) :
    ∀ (fuel : Nat) (listed : Array Bool) (a : Act) (w : World), listed.size = ops.size → Closed ops (LS listed) → DI N ops F S R G0 w0 w1 df (LS listed) a w → (List.range ops.size).countP (fun j => !listed.getD j true) ≤ fuel →
      wpAny C.P .any ops Q fuel listed a w := by
  have done : ∀ (listed : Array Bool), listed.size = ops.size → Region.ready .any ops listed = [] → ∀ j, j < ops.size → LS listed j := by
    intro listed hsz hr j
    induction j using Nat.strongRecOn with
    | _ j ih =>
      intro hj
      by_cases hL : LS listed j
      · exact hL
      · exfalso
        have ho := Array.getElem?_eq_getElem hj
        have : j ∈ Region.ready .any ops listed := by
          refine mem_ready.2 ⟨?_, _, ho, fun e he hb => ?_⟩
          · unfold LS at hL
            simp only [Array.getD_eq_getD_getElem?, Array.getElem?_eq_getElem (show j < listed.size by omega), Option.getD_some] at hL ⊢
            simpa using hL
          · have hlt := hdr.lt j _ ho e (by simpa using he) hb
            exact ih e.on hlt (by omega)
        rw [hr] at this
        cases this
  intro fuel
  induction fuel with
  | zero =>
    intro listed a w hsz hcl hI hc
    have hall : ∀ j, j < ops.size → listed.getD j true = true := fun j hj => by
      have := List.countP_eq_zero.1 (Nat.le_zero.1 hc) j (List.mem_range.2 hj)
      simpa using this
    have hr : Region.ready .any ops listed = [] := by
      refine List.eq_nil_iff_forall_not_mem.2 fun j hj => ?_
      obtain ⟨h1, o, ho, _⟩ := mem_ready.1 hj
      have hlt : j < ops.size := by
        rcases Nat.lt_or_ge j ops.size with h | h
        · exact h
        · simp [Array.getElem?_eq_none h] at ho
      rw [hall j hlt] at h1
      cases h1
    exact ⟨hr, hfin a w _ (done listed hsz hr) hI⟩
  | succ fuel ih =>
    intro listed a w hsz hcl hI hc
    refine ⟨fun hr => hfin a w _ (done listed hsz hr) hI, fun i hi => ?_⟩
    obtain ⟨h1, o, ho, haft⟩ := mem_ready.1 hi
    have hlt : i < listed.size := by
      rcases Nat.lt_or_ge i listed.size with h | h
      · exact h
      · simp [Array.getElem?_eq_none h] at h1
    have hnot : ¬ LS listed i := by
      unfold LS
      simp only [Array.getD_eq_getD_getElem?, Array.getElem?_eq_getElem hlt, Option.getD_some] at h1 ⊢
      simp [h1]
    have hset : ∀ j, LS (listed.setIfInBounds i true) j ↔ LS listed j ∨ j = i := by
      intro j
      unfold LS
      by_cases hji : j = i
      · subst hji; simp [hlt]
      · rw [getD_set_ne false (Ne.symm hji)]; simp [hji]
    refine draw_step hcall hH hdr hT hcl ho hnot (fun e he hb => haft e (by simpa using he) hb) hd hI fun a' w' hI' => ?_
    refine ih _ a' w' (by simp [hsz]) ?_ (DI_congr (fun j => (hset j).symm) hI') ?_
    · intro j p hp hj e he hb
      rw [hset] at hj ⊢
      rcases hj with hj | rfl
      · exact .inl (hcl j p hp hj e he hb)
      · rw [ho] at hp; injection hp with hp; subst hp
        exact .inl (haft e (by simpa using he) hb)
    · have := countP_lt (p := fun j => !listed.getD j true) (q := fun j => !(listed.setIfInBounds i true).getD j true) (List.range ops.size) i (fun j hj => ?_) (List.mem_range.2 (by omega)) (by simp [h1]) (by simp [hlt])
      · omega
      · by_cases hji : i = j
        · subst hji; simp [hlt] at hj
        · rw [getD_set_ne true hji] at hj; exact hj
end

/-- A region. -/
theorem region_ok {C : Cfg} {call : CallF} {f N : Nat} {id : Nat} {ops : Array Oper} {draw : Bool} {Q : Exit → Act → World → Prop} {fr fr' : Fr} {st st' : St} {a : Act} {G : Gh} {w0 w : World} (hm : C.P.follows .mixedOrders = true) (hcall : CallOK C call) (hH : CallH C call)
    (hok : codeOK C f N (.region id ops draw) = true) (h : (if draw then runAny C call f ops ops.toList fr st else runOps C call f ops ops.toList fr st) = some (fr', st')) (hf : FR N G st.E w fr a) (hs : SR st G w0 w)
    (hQ : After N fr' st st' G w0 w a.defers (Q .normal)) : (Code.region id ops draw).wp C.P Q a w := by
  simp only [codeOK, Bool.and_eq_true] at hok
  obtain ⟨hd, hdr⟩ := hok
  have hd1 : ∀ o ∈ ops.toList, ∀ d, o.dst = some d → d < N := fun o ho d hd' => by
    have := List.all_eq_true.1 hd o ho
    simpa [hd'] using this
  cases draw with
  | false =>
    simp at h
    refine wp_region ?_
    have := runOps_ok hcall hd1 ops.toList 0 fr st a G w (fun j => by simp) h hf hs hQ
    simpa [List.range_eq_range'] using this
  | true =>
    simp at h hdr
    have hdr := drawn_of hdr
    have hd2 : ∀ (j : Nat) (p : Oper), ops[j]? = some p → ∀ d, p.dst = some d → d < N := fun j p hp => hd1 p (by rw [← Array.getElem?_toList] at hp; exact List.mem_of_getElem? hp)
    obtain ⟨F, S, R, e1, e2, e3, e4, e5⟩ := runAny_traj _ _ _ _ _ h
    subst e1 e2
    have hT : Traj C call f ops F S R := ⟨fun i o ho => e5 i o (by simpa using ho)⟩
    have hk : Keep G.B w { w with drawn := w.drawn + 1 } := ⟨rfl, rfl, rfl, Nat.le_refl _, fun _ _ => rfl, fun _ _ => .inl rfl⟩
    refine wp_region_any hm (any_ok (G0 := G) (w0 := w0) (w1 := w) (df := a.defers) hcall hH hdr hT hd2 (fun a' w' D hD hI => ?_) _ _ _ _ (by simp) ?_ ?_ ?_)
    · obtain ⟨m, G', hm', hmn, hx, hs', hN, hdf, hR, hB⟩ := hI
      have hS : S ops.size = S m := by
        have := S_same (x := m) hT (ops.size - m) (by omega) fun j p h1 h2 hp => by
          cases hpa : isAnchor p with
          | false => rfl
          | true =>
            have := (hm' j p hp hpa).1 (hD j (by omega))
            omega
        rwa [show m + (ops.size - m) = ops.size by omega] at this
      have hE : st' = S m := by rw [← e4, ← hS]; simp
      subst hE
      refine hQ a' w' G' hdf hx hs' ⟨hN, fun t v hl => ?_⟩
      rw [← e3] at hl
      simp only [Array.length_toList] at hl
      by_cases hex : ∃ (j : Nat) (p : Oper), ops[j]? = some p ∧ p.dst = some t
      · obtain ⟨j, p, hp, hpd⟩ := hex
        have hlt : j < ops.size := by
          rcases Nat.lt_or_ge j ops.size with h | h
          · exact h
          · simp [Array.getElem?_eq_none h] at hp
        rw [look_put hT hdr hp hpd _ (Nat.le_refl _) hlt] at hl
        injection hl with hl; subst hl
        exact ⟨hd2 j p hp t hpd, hR j p t hp (hD j hlt) hpd⟩
      · rw [look_base hT _ (Nat.le_refl _) fun j p _ hp hpd => hex ⟨j, p, hp, hpd⟩] at hl
        exact hB t v (fun j p hp _ hpd => hex ⟨j, p, hp, hpd⟩) hl
    · intro j p hp hj
      exact absurd hj LS_rep
    · refine ⟨0, G, fun j p hp _ => ?_, Nat.zero_le _, Ext_keep hk, SR_keep hs hk, hf.1, rfl, fun j o t ho hj => ?_, fun t v _ hl => ?_⟩
      · exact ⟨fun h => absurd h LS_rep, fun h => by omega⟩
      · exact absurd hj LS_rep
      · obtain ⟨h1, h2⟩ := hf.2 t v hl
        exact ⟨h1, VR_mono (Ext_keep hk) _ _ h2⟩
    · exact Nat.le_trans List.countP_le_length (by simp)

end Go.Tm
end
section
set_option linter.unusedVariables false
set_option linter.unusedSimpArgs false
namespace Go.Tm
open Go Go.RowKit

def Ex.out : Ex → Exit
  | .normal => .normal
  | .exit id => .exit id
  | .ret => .ret

theorem lookF_need : ∀ {ks : List Nat} {fr r : Fr} {s : Nat} {t : T}, needF ks fr = some r → lookF r s = some t → lookF fr s = some t
  | [], fr, r, s, t, h, hl => by simp [needF] at h; subst h; simp [lookF] at hl
  | k :: ks, fr, r, s, t, h, hl => by
    simp only [needF] at h
    split at h
    · rename_i x hx
      split at h
      · rename_i r' hr
        simp at h; subst h
        simp only [lookF] at hl
        split at hl
        · rename_i e; subst e; simp at hl; subst hl; exact hx
        · exact lookF_need hr hl
      · simp at h
    · simp at h

theorem FR_need {N : Nat} {G : Gh} {E : List Nat} {w : World} {fr r : Fr} {a : Act} {ks : List Nat} (h : needF ks fr = some r) (hf : FR N G E w fr a) : FR N G E w r a :=
  ⟨hf.1, fun s t ht => hf.2 s t (lookF_need h ht)⟩

/-! ### boxes that nothing names are dropped -/
def Gh.cut (G : Gh) (m : Nat) : Gh := { G with bx := fun id => if id < m then G.bx id else none }

theorem cut_bx {G : Gh} {m id g : Nat} (h : (G.cut m).bx id = some g) : id < m ∧ G.bx id = some g := by
  unfold Gh.cut at h
  by_cases hm : id < m
  · simp [hm] at h; exact ⟨hm, h⟩
  · simp [hm] at h

theorem cut_im {G : Gh} {m : Nat} {a : Addr} (h : Im G a) : Im (G.cut m) a := by
  rcases h with h | ⟨h1, h2, h3⟩
  · exact .inl h
  · exact .inr ⟨h1, fun id g hg => h2 id g (cut_bx hg).2, h3⟩

theorem VR_lo1 {G : Gh} {E : List Nat} {w : World} {m : Nat} : ∀ {t : T} {v : Value}, t.lo1 m = true → VR G E w t v → VR (G.cut m) E w t v
  | .d u, v, _, h => by unfold VR at *; exact h
  | .sl nl n cs o, v, _, h => by
    unfold VR at *
    rcases h with h | ⟨h1, ad, cap, h2, h3, h4, h5⟩
    · exact .inl h
    · exact .inr ⟨h1, ad, cap, h2, h3, DRL_mono (fun a ha _ => ⟨cut_im ha, rfl⟩) ad cs 0 h4, by cases o <;> exact h5⟩
  | .el cs i, v, _, h => by
    unfold VR at *
    obtain ⟨ad, h1, h2⟩ := h
    exact ⟨ad, h1, DRL_mono (fun a ha _ => ⟨cut_im ha, rfl⟩) ad cs 0 h2⟩
  | .ptr id off, v, hl, h => by
    unfold VR at *
    simp [T.lo1] at hl
    obtain ⟨g, h1, h2⟩ := h
    exact ⟨g, by simp [Gh.cut, hl, h1], h2⟩
  | .loc id off n cap, v, hl, h => by
    unfold VR at *
    simp [T.lo1] at hl
    obtain ⟨g, c, h1, h2, h3⟩ := h
    exact ⟨g, c, by simp [Gh.cut, hl, h1], h2, h3⟩
  | .mapr id, v, hl, h => by
    unfold VR at *
    simp [T.lo1] at hl
    obtain ⟨g, h1, h2⟩ := h
    exact ⟨g, by simp [Gh.cut, hl, h1], h2⟩
  | .agg cs, v, hl, h => by simp [T.lo1] at hl
  | .tup cs, v, hl, h => by simp [T.lo1] at hl
  | .clo f a b, v, hl, h => by simp [T.lo1] at hl

theorem VRL_lo1 {G : Gh} {E : List Nat} {w : World} {m : Nat} : ∀ {ts : List T} {vs : List Value}, ts.all (T.lo1 m) = true → VRL G E w ts vs → VRL (G.cut m) E w ts vs
  | [], [], _, h => by unfold VRL; trivial
  | t :: ts, v :: vs, hl, h => by
    simp only [List.all_cons, Bool.and_eq_true] at hl
    unfold VRL at *
    exact ⟨VR_lo1 hl.1 h.1, VRL_lo1 hl.2 h.2⟩
  | [], _ :: _, _, h => by unfold VRL at h; exact h.elim
  | _ :: _, [], _, h => by unfold VRL at h; exact h.elim

theorem VR_lo {G : Gh} {E : List Nat} {w : World} {m : Nat} {t : T} {v : Value} (hl : t.lo m = true) (h : VR G E w t v) : VR (G.cut m) E w t v := by
  cases t with
  | agg cs => unfold VR at *; obtain ⟨vs, h1, h2⟩ := h; exact ⟨vs, h1, VRL_lo1 hl h2⟩
  | tup cs => unfold VR at *; obtain ⟨vs, h1, h2⟩ := h; exact ⟨vs, h1, VRL_lo1 hl h2⟩
  | clo f a b =>
    unfold VR at *
    simp only [T.lo, Bool.and_eq_true] at hl
    obtain ⟨fs, cs, h1, h2, h3⟩ := h
    exact ⟨fs, cs, h1, VRL_lo1 hl.1 h2, VRL_lo1 hl.2 h3⟩
  | _ => exact VR_lo1 hl h

theorem BoxR_lo {G : Gh} {E : List Nat} {w : World} {m g : Nat} {b : Box} (hl : b.lo m = true) (h : BoxR G E w g b) : BoxR (G.cut m) E w g b := by
  cases b with
  | cells cs =>
    obtain ⟨arr, e, fz, h1, h2, h3, h4⟩ := h
    refine ⟨arr, e, fz, h1, h2, h3, fun i c hc => ?_⟩
    obtain ⟨h5, u, h6, h7⟩ := h4 i c hc
    exact ⟨h5, u, h6, VR_lo (List.all_eq_true.1 hl c (List.mem_of_getElem? hc)) h7⟩
  | map es =>
    obtain ⟨arr, clock, h1, h2, h4⟩ := h
    refine ⟨arr, clock, h1, h2, fun i k t hc => ?_⟩
    obtain ⟨h5, u, h6, h7, h8⟩ := h4 i k t hc
    exact ⟨h5, u, h6, h7, VR_lo (List.all_eq_true.1 hl (k, t) (List.mem_of_getElem? hc)) h8⟩
  | dead => exact h.elim

/-- As 'Ext', but for the boxes from m on. -/
structure ExtM (m : Nat) (G : Gh) (E : List Nat) (w : World) (G' : Gh) (E' : List Nat) (w' : World) : Prop where
  B : G'.B = G.B
  A : G'.A = G.A
  im : ∀ a, Im G a → (w.cell? a).isSome = true → Im G' a ∧ w'.cell? a = w.cell? a
  bx : ∀ id g, id < m → G.bx id = some g → G'.bx id = some g
  len : E.length ≤ E'.length
  le : ∀ k, E.getD k 0 ≤ E'.getD k 0
  tk : ∀ k n, E[k]? = some n → E'[k]? = some n → G'.tk k = G.tk k
theorem Ext.toM {m : Nat} {G G' : Gh} {E E' : List Nat} {w w' : World} (h : Ext G E w G' E' w') : ExtM m G E w G' E' w' := ⟨h.B, h.A, h.im, fun id g _ hg => h.bx id g hg, h.len, h.le, h.tk⟩
theorem ExtM.ext {st : St} {G G' : Gh} {E' : List Nat} {w0 w w' : World} (hs : SR st G w0 w) (h : ExtM st.H.length G st.E w G' E' w') : Ext G st.E w G' E' w' := ⟨h.B, h.A, h.im, fun id g hg => h.bx id g (SR_box_lt hs hg) hg, h.len, h.le, h.tk⟩
theorem ExtM.trans {m : Nat} {G G1 G2 : Gh} {E E1 E2 : List Nat} {w w1 w2 : World} (h : ExtM m G E w G1 E1 w1) (k : ExtM m G1 E1 w1 G2 E2 w2) : ExtM m G E w G2 E2 w2 := by
  refine ⟨k.B.trans h.B, k.A.trans h.A, fun a ha hs => ?_, fun id g hm hg => k.bx _ _ hm (h.bx _ _ hm hg), Nat.le_trans h.len k.len, fun i => Nat.le_trans (h.le i) (k.le i), fun i n h1 h2 => ?_⟩
  · obtain ⟨h1, h2⟩ := h.im a ha hs
    obtain ⟨h3, h4⟩ := k.im a h1 (by rw [h2]; exact hs)
    exact ⟨h3, h4.trans h2⟩
  · have hlt : i < E.length := (List.getElem?_eq_some_iff.1 h1).1
    have h3 := getD_of_lt (Nat.lt_of_lt_of_le hlt h.len)
    have h4 := h.le i
    have h5 := k.le i
    have h6 := getD_some h1
    have h7 := getD_some h2
    have h8 : E1[i]? = some n := by rw [h3]; congr 1; omega
    rw [k.tk i n h8 h2, h.tk i n h1 h8]
def AfterM (m N : Nat) (fr' : Fr) (st st' : St) (G : Gh) (w0 w : World) (df : List Deferred) (K : Act → World → Prop) : Prop :=
  ∀ a' w' G', a'.defers = df → ExtM m G st.E w G' st'.E w' → SR st' G' w0 w' → FR N G' st'.E w' fr' a' → K a' w'

theorem lookF_mem {fr : Fr} {s : Nat} {t : T} : lookF fr s = some t → (s, t) ∈ fr := by
  induction fr with
  | nil => intro h; simp [lookF] at h
  | cons e fr ih =>
    obtain ⟨k, x⟩ := e
    intro h
    simp only [lookF] at h
    split at h
    · rename_i e; subst e; simp at h; subst h; exact List.mem_cons_self
    · exact List.mem_cons_of_mem _ (ih h)

theorem lookF_map {s : Nat} {y : T} : ∀ {fr : Fr} {k : Nat} {t : T}, lookF (fr.map fun e => if e.1 = s then (e.1, y) else e) k = some t → (k = s ∧ t = y ∧ (lookF fr s).isSome = true) ∨ (k ≠ s ∧ lookF fr k = some t)
  | [], k, t, h => by simp [lookF] at h
  | (j, x) :: fr, k, t, h => by
    simp only [List.map_cons] at h
    by_cases hj : j = s
    · subst hj
      simp only [if_true, lookF] at h
      by_cases hk : j = k
      · subst hk
        simp at h
        exact .inl ⟨rfl, h.symm, by simp [lookF]⟩
      · rw [if_neg hk] at h
        rcases lookF_map h with ⟨h1, _, _⟩ | ⟨h1, h2⟩
        · exact absurd h1.symm hk
        · exact .inr ⟨h1, by simp only [lookF]; rw [if_neg hk]; exact h2⟩
    · rw [if_neg hj] at h
      simp only [lookF] at h
      by_cases hk : j = k
      · subst hk
        rw [if_pos rfl] at h
        exact .inr ⟨hj, by simp only [lookF]; simpa using h⟩
      · rw [if_neg hk] at h
        rcases lookF_map h with ⟨h1, h2, h3⟩ | ⟨h1, h2⟩
        · refine .inl ⟨h1, h2, ?_⟩
          simp only [lookF]; rw [if_neg hj]; exact h3
        · exact .inr ⟨h1, by simp only [lookF]; rw [if_neg hk]; exact h2⟩

theorem gc_ok {m N : Nat} {G0 G : Gh} {st0 st : St} {w0 w1 w : World} {fr : Fr} {a : Act} (hs0 : SR st0 G0 w0 w1) (he : ExtM m G0 st0.E w1 G st.E w) (hs : SR st G w0 w) (hf : FR N G st.E w fr a) :
    ∃ G', ExtM m G0 st0.E w1 G' (gcT st0.H.length fr st).E w ∧ SR (gcT st0.H.length fr st) G' w0 w ∧ FR N G' (gcT st0.H.length fr st).E w fr a := by
  unfold gcT
  split
  · exact ⟨G, he, hs, hf⟩
  · split
    · rename_i hlt hall
      simp only [Bool.and_eq_true] at hall
      obtain ⟨ha, hb⟩ := hall
      refine ⟨G.cut st0.H.length, ⟨he.B, he.A, fun x hx hc => ?_, fun id g hm hg => ?_, he.len, he.le, he.tk⟩, ⟨hs.below, hs.base, fun id g hg => ?_, fun i j g hi hj => hs.boxInj i j g (cut_bx hi).2 (cut_bx hj).2, hs.tok, hs.tokInj, fun id g k r hg hr => hs.apart id g k r (cut_bx hg).2 hr⟩, hf.1, fun s t ht => ?_⟩
      · obtain ⟨h1, h2⟩ := he.im x hx hc
        exact ⟨cut_im h1, h2⟩
      · have h1 := he.bx id g hm hg
        obtain ⟨_, _, b, h2, _⟩ := hs0.box id g hg
        have h3 := (List.getElem?_eq_some_iff.1 h2).1
        simp [Gh.cut, h3, h1]
      · obtain ⟨hi, hg'⟩ := cut_bx hg
        obtain ⟨h1, h2, b, h3, h4⟩ := hs.box id g hg'
        refine ⟨h1, h2, b, by simp [hi, h3], BoxR_lo (List.all_eq_true.1 hb b ?_) h4⟩
        exact List.mem_of_getElem? (show (st.H.take st0.H.length)[id]? = some b by simp [hi, h3])
      · obtain ⟨h1, h2⟩ := hf.2 s t ht
        have mem : ∀ (fr : Fr), lookF fr s = some t → (s, t) ∈ fr := by
          intro fr
          induction fr with
          | nil => intro h; simp [lookF] at h
          | cons e fr ih =>
            obtain ⟨k, x⟩ := e
            intro h
            simp only [lookF] at h
            split at h
            · rename_i e; subst e; simp at h; subst h; exact List.mem_cons_self
            · exact List.mem_cons_of_mem _ (ih h)
        exact ⟨h1, VR_lo (List.all_eq_true.1 ha (s, t) (mem fr ht)) h2⟩
    · exact ⟨G, he, hs, hf⟩

theorem VR_toD {G1 : Gh} {E1 : List Nat} {w : World} {t : T} {v : Value} {d : D} (h : VR G1 E1 w t v) (hd : T.toD t = some d) : DR (Im G1) w d v := by
  unfold T.toD at hd
  split at hd
  · simp at hd; subst hd; unfold VR at h; unfold DR; exact h
  · simp at hd; subst hd
    unfold VR at h
    unfold DR
    rcases h with h | ⟨h1, ad, cap, h2, h3, h4, h5⟩
    · exact .inl h
    · exact .inr ⟨h1, ad, cap, h2, h3, h4⟩
  · simp at hd

theorem frz_ok {C : Cfg} {f id m N : Nat} {G : Gh} {st : St} {w0 w : World} {fr : Fr} {a : Act} (hpm : C.pure f = true → m = 0) (hs : SR st G w0 w) (hf : FR N G st.E w fr a) :
    ∃ G', ExtM m G st.E w G' (frzO (C.frzOf f id) fr st).2.E w ∧ SR (frzO (C.frzOf f id) fr st).2 G' w0 w ∧ FR N G' (frzO (C.frzOf f id) fr st).2.E w (frzO (C.frzOf f id) fr st).1 a := by
  unfold Cfg.frzOf
  have no : ∃ G', ExtM m G st.E w G' st.E w ∧ SR st G' w0 w ∧ FR N G' st.E w fr a := ⟨G, (Ext.refl _ _ _).toM, hs, hf⟩
  split
  · rename_i hp
    have hm := hpm hp
    subst hm
    cases ho : C.frz f id with
    | none => exact no
    | some s =>
      simp only [frzO, frzT]
      split
      · rename_i b n c hl
        split
        · rename_i cs hcs
          split
          · rename_i ds hds
            split
            · rename_i hc
              obtain ⟨hnc, hfa, hba⟩ := hc
              subst hnc
              obtain ⟨hsN, hv⟩ := hf.2 s _ hl
              unfold VR at hv
              obtain ⟨g, c, hg, hval, hle⟩ := hv
              obtain ⟨b1, b2, bb, hb, hR⟩ := hs.box b g hg
              rw [hb] at hcs; injection hcs with hcs; subst hcs
              obtain ⟨arr, e, fz, k1, k2, k3, k4⟩ := hR
              obtain ⟨l1, l2⟩ := toDs_get hds
              have him : ∀ x, Im G x → Im (G.cut b) x := fun x hx => cut_im hx
              refine ⟨G.cut b, ⟨rfl, rfl, fun x hx _ => ⟨him x hx, rfl⟩, fun i g hi _ => absurd hi (Nat.not_lt_zero _), Nat.le_refl _, fun _ => Nat.le_refl _, fun _ _ _ _ => rfl⟩,
                ⟨hs.below, hs.base, fun i g hg => ?_, fun i j g hi hj => hs.boxInj i j g (cut_bx hi).2 (cut_bx hj).2, hs.tok, hs.tokInj, fun i g k r hg hr => hs.apart i g k r (cut_bx hg).2 hr⟩, hf.1, fun k t ht => ?_⟩
              · obtain ⟨hi, hg'⟩ := cut_bx hg
                obtain ⟨h1, h2, b', h3, h4⟩ := hs.box i g hg'
                refine ⟨h1, h2, b', by simp [hi, h3], BoxR_lo (List.all_eq_true.1 hba b' ?_) h4⟩
                exact List.mem_of_getElem? (show (st.H.take b)[i]? = some b' by simp [hi, h3])
              · rcases lookF_map ht with ⟨rfl, rfl, _⟩ | ⟨hne, hlk⟩
                · refine ⟨hsN, ?_⟩
                  rw [hval]
                  unfold VR
                  refine .inr ⟨rfl, _, _, rfl, hle, DRL_mk fun i x hx => ?_, by unfold OwR; trivial⟩
                  obtain ⟨t', ht', hxt⟩ := l2 i x hx
                  obtain ⟨_, u, hu, hvu⟩ := k4 i t' ht'
                  refine ⟨.inr ⟨by rw [Addr.block_add]; exact b1, fun id' g' hg' => ?_, fun j r hr he => ?_⟩, u, ?_, DR_mono (fun a ha _ => ⟨him a ha, rfl⟩) _ _ (VR_toD hvu hxt)⟩
                  · obtain ⟨hi', hg2⟩ := cut_bx hg'
                    rw [Addr.block_add]
                    intro hgg
                    simp only at hgg
                    subst hgg
                    have := hs.boxInj _ _ _ hg2 hg
                    omega
                  · rw [Addr.block_add] at he
                    exact absurd he (hs.apart _ _ _ _ hg hr)
                  · rw [Nat.zero_add, Addr.add_none, Nat.zero_add, cell_of_block k1]
                    exact hu
                · obtain ⟨h1, h2⟩ := hf.2 k t hlk
                  refine ⟨h1, VR_lo ?_ h2⟩
                  refine List.all_eq_true.1 hfa (k, t) ?_
                  rw [List.mem_filter]
                  exact ⟨lookF_mem hlk, by simpa using hne⟩
            · exact no
          · exact no
        · exact no
      · exact no
  · exact no

theorem code_ok {C : Cfg} {call : CallF} {f m N n : Nat} {w0 : World} (hpm : C.pure f = true → m = 0) (hm : C.P.follows .mixedOrders = true) (hcall : CallOK C call) (hH : CallH C call) :
    ∀ (c : Code) (fr fr' : Fr) (st st' : St) (ex : Ex) (a : Act) (G : Gh) (w : World) (Q : Exit → Act → World → Prop), codeOK C f N c = true → runC C call n f c fr st = some (ex, fr', st') → FR N G st.E w fr a → SR st G w0 w →
      AfterM m N fr' st st' G w0 w a.defers (Q ex.out) → c.wp C.P Q a w := by
  intro c
  induction c with
  | skip =>
    intro fr fr' st st' ex a G w Q hok h hf hs hQ
    simp [runC] at h
    obtain ⟨rfl, rfl, rfl⟩ := h
    exact wp_skip (hQ a w G rfl (Ext.refl _ _ _).toM hs hf)
  | region id ops draw =>
    intro fr fr' st st' ex a G w Q hok h hf hs hQ
    simp only [runC] at h
    split at h
    · rename_i fr0 hn0
      split at h
      · rename_i fr1 st1 hr
        split at h
        · rename_i fr2 hn2
          simp at h
          obtain ⟨rfl, rfl, rfl⟩ := h
          exact region_ok hm hcall hH hok hr (FR_need hn0 hf) hs fun a' w' G' h1 h2 h3 h4 => by
            obtain ⟨G2, g1, g2, g3⟩ := frz_ok (C := C) (f := f) (id := id) hpm h3 (FR_need hn2 h4)
            exact hQ a' w' G2 h1 (h2.toM.trans g1) g2 g3
        · simp at h
      · simp at h
    · simp at h
  | seq x y ihx ihy =>
    intro fr fr' st st' ex a G w Q hok h hf hs hQ
    simp only [codeOK, Bool.and_eq_true] at hok
    simp only [runC] at h
    refine wp_seq ?_
    split at h
    · rename_i fr1 st1 hr
      refine ihx _ _ _ _ _ _ _ _ _ hok.1 hr hf hs fun a' w' G' h1 h2 h3 h4 => ?_
      exact ihy _ _ _ _ _ _ _ _ _ hok.2 h h4 h3 fun a2 w2 G2 k1 k2 k3 k4 => hQ a2 w2 G2 (k1.trans h1) (h2.trans k2) k3 k4
    · rename_i hne
      refine ihx _ _ _ _ _ _ _ _ _ hok.1 h hf hs fun a' w' G' h1 h2 h3 h4 => ?_
      have := hQ a' w' G' h1 h2 h3 h4
      cases ex with
      | normal => exact absurd h (hne _ _)
      | exit id => exact this
      | ret => exact this
  | cond x p q ihp ihq =>
    intro fr fr' st st' ex a G w Q hok h hf hs hQ
    simp only [codeOK, Bool.and_eq_true] at hok
    simp only [runC] at h
    split at h
    · rename_i hx
      have hv := VR_opd hf hx
      unfold VR at hv
      exact wp_cond_true hv.1 (ihp _ _ _ _ _ _ _ _ _ hok.1 h hf hs hQ)
    · rename_i hx
      have hv := VR_opd hf hx
      unfold VR at hv
      exact wp_cond_false hv.1 (ihq _ _ _ _ _ _ _ _ _ hok.2 h hf hs hQ)
    · simp at h
  | block id x ih =>
    intro fr fr' st st' ex a G w Q hok h hf hs hQ
    simp only [codeOK] at hok
    simp only [runC] at h
    refine wp_block ?_
    split at h
    · rename_i i fr1 st1 hr
      refine ih _ _ _ _ _ _ _ _ _ hok hr hf hs fun a' w' G' h1 h2 h3 h4 => ?_
      split at h
      · rename_i hi
        simp at h
        obtain ⟨rfl, rfl, rfl⟩ := h
        simp only [Ex.out, Exit.inBlock, hi, if_true]
        exact hQ a' w' G' h1 h2 h3 h4
      · rename_i hi
        simp at h
        obtain ⟨rfl, rfl, rfl⟩ := h
        simp only [Ex.out, Exit.inBlock, hi, if_false]
        exact hQ a' w' G' h1 h2 h3 h4
    · rename_i hne
      refine ih _ _ _ _ _ _ _ _ _ hok h hf hs fun a' w' G' h1 h2 h3 h4 => ?_
      have := hQ a' w' G' h1 h2 h3 h4
      cases ex with
      | normal => exact this
      | exit id => exact absurd h (hne _ _ _)
      | ret => exact this
  | loop x ih =>
    intro fr fr' st st' ex a G w Q hok h hf hs hQ
    simp only [codeOK] at hok
    simp only [runC] at h
    have key : ∀ (j : Nat) (fr : Fr) (st : St) (a : Act) (G : Gh) (w : World), loopT (fun fr st => runC C call n f x fr st) j fr st = some (ex, fr', st') → FR N G st.E w fr a → SR st G w0 w → AfterM m N fr' st st' G w0 w a.defers (Q ex.out) →
        ∀ (b : Frame) (k : List Item) (cs : List Frame), ∃ e a' w', Q e a' w' ∧ Arrives C.P (lone (b.at a (.code x :: .inLoop x :: k)) cs w) b k cs e a' w' := by
      intro j
      induction j with
      | zero => intro fr st a G w h; simp [loopT] at h
      | succ j ihm =>
        intro fr st a G w h hf hs hQ b k cs
        simp only [loopT] at h
        split at h
        · rename_i fr1 st1 hr
          obtain ⟨e, a1, w1, ⟨rfl, G1, h1, h2, h3, h4⟩, harr⟩ := ih fr fr1 st st1 .normal a G w (fun e a' w' => e = .normal ∧ ∃ G', a'.defers = a.defers ∧ ExtM m G st.E w G' st1.E w' ∧ SR st1 G' w0 w' ∧ FR N G' st1.E w' fr1 a') hok hr hf hs
            (fun a' w' G' h1 h2 h3 h4 => ⟨rfl, G', h1, h2, h3, h4⟩) b (.inLoop x :: k) cs
          obtain ⟨G2, g2, g3, g4⟩ := gc_ok hs h2 h3 h4
          obtain ⟨e2, a2, w2, hq, harr2⟩ := ihm fr1 _ a1 G2 w1 h g4 g3 (fun a' w' G' k1 k2 k3 k4 => hQ a' w' G' (k1.trans h1) (g2.trans k2) k3 k4) b k cs
          exact ⟨e2, a2, w2, hq, .of_steps (Steps.trans harr (.one step_inLoop)) harr2⟩
        · rename_i hne
          obtain ⟨e, a1, w1, ⟨he, hq⟩, harr⟩ := ih fr fr' st st' ex a G w (fun e a' w' => e = ex.out ∧ Q e a' w') hok h hf hs
            (fun a' w' G' h1 h2 h3 h4 => ⟨rfl, hQ a' w' G' h1 h2 h3 h4⟩) b (.inLoop x :: k) cs
          cases ex with
          | normal => exact absurd h (hne _ _)
          | exit id => subst he; exact ⟨_, a1, w1, hq, .pass (x := .inLoop x) rfl (fun _ _ => .inl (by simp [Ex.out])) harr⟩
          | ret => subst he; exact ⟨_, a1, w1, hq, .pass (x := .inLoop x) rfl (fun _ _ => .inl (by simp [Ex.out])) harr⟩
    intro b k cs
    obtain ⟨e, a', w', hq, harr⟩ := key n fr st a G w h hf hs hQ b k cs
    exact ⟨e, a', w', hq, .of_steps (.one step_loop) harr⟩
  | exit id =>
    intro fr fr' st st' ex a G w Q hok h hf hs hQ
    simp [runC] at h
    obtain ⟨rfl, rfl, rfl⟩ := h
    exact wp_exit (hQ a w G rfl (Ext.refl _ _ _).toM hs hf)
  | ret =>
    intro fr fr' st st' ex a G w Q hok h hf hs hQ
    simp [runC] at h
    obtain ⟨rfl, rfl, rfl⟩ := h
    exact wp_ret (hQ a w G rfl (Ext.refl _ _ _).toM hs hf)
  | _ => intros; rename_i h _ _ _; simp [runC] at h

end Go.Tm
end
section
set_option linter.unusedVariables false
set_option linter.unusedSimpArgs false
namespace Go.Tm
open Go Go.RowKit

/-! ### what a body hands back -/
theorem resVar_ok {C : Cfg} {N : Nat} {fr : Fr} {a : Act} {st : St} {G : Gh} {w0 w : World} {rv : ResultVar} {t : T} (hf : FR N G st.E w fr a) (hs : SR st G w0 w) (h : resVar C fr st.H rv = some t) :
    ∃ v, ((match rv with | .tmp t => pure (a.tmps.getD t undef) | .cell x t => do loadVar t (← asAddr (a.tmps.getD x undef)) : Sem Value)).run C.P w = .ok v w ∧ VR G st.E w t v := by
  cases rv with
  | tmp s => exact ⟨_, rfl, (hf.2 s t h).2⟩
  | cell x ty =>
    obtain ⟨v, h1, h2⟩ := load_same hf hs h
    refine ⟨v, ?_, h2⟩
    have he : a.eval (.tmp x) = a.tmps.getD x undef := rfl
    rw [he] at h1
    obtain ⟨ad, had⟩ : ∃ ad, a.tmps.getD x undef = .pointer (some ad) := by
      generalize a.tmps.getD x undef = p at h1
      unfold Instr.loadAt at h1
      cases p <;> first
        | (simp [Instr.sureAddr, stuck, Sem.run] at h1; done)
        | skip
      rename_i o
      cases o with
      | none => simp [Instr.sureAddr, stuck, Sem.run] at h1
      | some ad => exact ⟨ad, rfl⟩
    rw [had] at h1
    simp only [had]
    simpa [Instr.loadAt, Instr.sureAddr, asAddr] using h1

theorem resVars_ok {C : Cfg} {N : Nat} {fr : Fr} {a : Act} {st : St} {G : Gh} {w0 w : World} (hf : FR N G st.E w fr a) (hs : SR st G w0 w) : ∀ {rs : List ResultVar} {ts : List T}, resVars C fr st.H rs = some ts →
    ∃ vs, ((rs.mapM fun | .tmp t => pure (a.tmps.getD t undef) | .cell x t => do loadVar t (← asAddr (a.tmps.getD x undef)) : Sem (List Value))).run C.P w = .ok vs w ∧ VRL G st.E w ts vs
  | [], ts, h => by
    simp [resVars] at h
    subst h
    exact ⟨[], rfl, by unfold VRL; trivial⟩
  | r :: rs, ts, h => by
    simp only [resVars] at h
    split at h
    · rename_i t ts' h1 h2
      simp at h; subst h
      obtain ⟨v, k1, k2⟩ := resVar_ok hf hs h1
      obtain ⟨vs, k3, k4⟩ := resVars_ok hf hs h2
      refine ⟨v :: vs, ?_, by unfold VRL; exact ⟨k2, k4⟩⟩
      rw [List.mapM_cons]
      simp only [Sem.run_bind]
      rw [k1]
      simp only [Result.andThen_ok]
      rw [k3]
      rfl
    · simp at h

theorem res_ok {C : Cfg} {N : Nat} {fn : Func} {fr : Fr} {a : Act} {st : St} {G : Gh} {w0 w : World} {t : T} (hf : FR N G st.E w fr a) (hs : SR st G w0 w) (h : resT C fn fr st.H = some t) :
    ∃ v, (results fn a.tmps).run C.P w = .ok v w ∧ VR G st.E w t v := by
  unfold resT at h
  have key : ∀ ts, resVars C fr st.H fn.results.toList = some ts → ∃ vs : List Value, VRL G st.E w ts vs ∧ (results fn a.tmps).run C.P w = .ok (if h : vs.toArray.size = 1 then vs.toArray[0] else .tuple vs.toArray) w := by
    intro ts hts
    obtain ⟨vs, h1, h2⟩ := resVars_ok hf hs hts
    refine ⟨vs, h2, ?_⟩
    unfold results
    rw [Array.mapM_eq_mapM_toList]
    simp only [Sem.run_bind, map_eq_pure_bind, Sem.run_pure]
    exact congrArg (fun r : Result (List Value) => (r.andThen fun a w' => Result.ok a.toArray w').andThen fun a w' => Result.ok (if h : a.size = 1 then a[0] else Value.tuple a) w') h1
  split at h
  · rename_i t' hts
    simp at h
    subst h
    obtain ⟨vs, h1, h2⟩ := key _ hts
    match vs, h1 with
    | [v], h1 =>
      unfold VRL at h1
      exact ⟨v, by simpa using h2, h1.1⟩
    | [], h1 => unfold VRL at h1; exact h1.elim
    | _ :: _ :: _, h1 => unfold VRL VRL at h1; exact h1.2.elim
  · rename_i ts hne hts
    simp at h
    subst h
    obtain ⟨vs, h1, h2⟩ := key _ hts
    have hl := VRL_length h1
    have : vs.length ≠ 1 := fun h => by
      rw [hl] at h
      match ts, h with
      | [t], _ => exact hne t rfl
    refine ⟨.tuple vs.toArray, by simpa [this] using h2, ?_⟩
    unfold VR
    exact ⟨vs.toArray, rfl, by simpa using h1⟩
  · simp at h

end Go.Tm
end
section
set_option linter.unusedVariables false
set_option linter.unusedSimpArgs false
namespace Go.Tm
open Go Go.RowKit

/-- The ghost of a closed call. -/
def GJ (J : Addr → Prop) (w : World) : Gh := { B := w.heap.size, A := J, bx := fun _ => none, tk := fun _ => none }

theorem SR_fresh (J : Addr → Prop) (w : World) : SR ⟨[], []⟩ (GJ J w) w w :=
  ⟨Below.refl _ _, Nat.le_refl _, fun id g h => by simp [GJ] at h, fun i j g h => by simp [GJ] at h, fun k r h => by simp [GJ] at h, fun i j r s h => by simp [GJ] at h, fun i g k r h => by simp [GJ] at h⟩

section
variable {G1 G2 : Gh} {E1 E2 : List Nat} {w : World}

theorem closeV_ok (him : ∀ a, Im G1 a → (w.cell? a).isSome = true → Im G2 a) {t t' : T} {v : Value} (h : VR G1 E1 w t v) (hc : closeV t = some t') : VR G2 E2 w t' v := by
  unfold closeV at hc
  split at hc
  · simp at hc; subst hc; unfold VR at h ⊢; exact h
  · simp at hc; subst hc
    unfold VR at h ⊢
    rcases h with h | ⟨h1, ad, cap, h2, h3, h4, h5⟩
    · exact .inl h
    · exact .inr ⟨h1, ad, cap, h2, h3, DRL_mono (fun a ha hs => ⟨him a ha hs, rfl⟩) ad _ 0 h4, h5⟩
  · simp at hc; subst hc
    unfold VR at h ⊢
    rcases h with h | ⟨h1, ad, cap, h2, h3, h4, h5⟩
    · exact .inl h
    · exact .inr ⟨h1, ad, cap, h2, h3, DRL_mono (fun a ha hs => ⟨him a ha hs, rfl⟩) ad _ 0 h4, h5.1⟩
  · simp at hc; subst hc
    unfold VR at h ⊢
    rcases h with h | ⟨h1, ad, cap, h2, h3, h4, h5⟩
    · exact .inl h
    · exact .inr ⟨h1, ad, cap, h2, h3, DRL_mono (fun a ha hs => ⟨him a ha hs, rfl⟩) ad _ 0 h4, trivial⟩
  · simp at hc

theorem closeL_ok (him : ∀ a, Im G1 a → (w.cell? a).isSome = true → Im G2 a) : ∀ {ts ts' : List T} {vs : List Value}, VRL G1 E1 w ts vs → closeL ts = some ts' → VRL G2 E2 w ts' vs
  | [], ts', vs, h, hc => by
    simp [closeL] at hc
    subst hc
    cases vs with
    | nil => unfold VRL; trivial
    | cons v vs => unfold VRL at h; exact h.elim
  | t :: ts, ts', vs, h, hc => by
    simp only [closeL] at hc
    split at hc
    · rename_i a b h1 h2
      simp at hc
      subst hc
      cases vs with
      | nil => unfold VRL at h; exact h.elim
      | cons v vs =>
        unfold VRL at h ⊢
        exact ⟨closeV_ok him h.1 h1, closeL_ok him h.2 h2⟩
    · simp at hc

theorem closeT_ok (him : ∀ a, Im G1 a → (w.cell? a).isSome = true → Im G2 a) {t t' : T} {v : Value} (h : VR G1 E1 w t v) (hc : closeT t = some t') : VR G2 E2 w t' v := by
  unfold closeT at hc
  split at hc
  · rename_i cs
    cases hl : closeL cs with
    | none => simp [hl] at hc
    | some ts =>
      simp [hl] at hc
      subst hc
      unfold VR at h ⊢
      obtain ⟨vs, h1, h2⟩ := h
      exact ⟨vs, h1, closeL_ok him h2 hl⟩
  · exact closeV_ok him h hc

theorem closeAll_ok (him : ∀ a, Im G1 a → (w.cell? a).isSome = true → Im G2 a) : ∀ {ts ts' : List T} {vs : List Value}, VRL G1 E1 w ts vs → closeAll ts = some ts' → VRL G2 E2 w ts' vs
  | [], ts', vs, h, hc => by
    simp [closeAll] at hc
    subst hc
    cases vs with
    | nil => unfold VRL; trivial
    | cons v vs => unfold VRL at h; exact h.elim
  | t :: ts, ts', vs, h, hc => by
    simp only [closeAll] at hc
    split at hc
    · rename_i a b h1 h2
      simp at hc
      subst hc
      cases vs with
      | nil => unfold VRL at h; exact h.elim
      | cons v vs =>
        unfold VRL at h ⊢
        exact ⟨closeT_ok him h.1 h1, closeAll_ok him h.2 h2⟩
    · simp at hc

end

section
variable {s st st' : St} {G G1 : Gh} {w0 w w' : World}

theorem Im_up (hs : SR st G w0 w) (hB : G1.B = w.heap.size) (hA : G1.A = Im G) (a : Addr) (h : Im G1 a) : Im G a := by
  rcases h with ⟨_, h⟩ | ⟨h1, h2, h3⟩
  · rw [hA] at h; exact h
  · rw [hB] at h1
    refine .inr ⟨Nat.le_trans hs.base h1, fun id g hg e => ?_, fun k r hr e => ?_⟩
    · have := (hs.box id g hg).2.1; omega
    · have := (hs.tok k r hr).2.1; omega

theorem ret1_ok {t r : T} {v : Value} (hs : SR st G w0 w) (hB : G1.B = w.heap.size) (hA : G1.A = Im G) (hs1 : SR s G1 w w') (hv : VR G1 s.E w' t v) (h : ret1 s st t = some (r, st')) :
    ∃ G2, Ext G st.E w G2 st'.E w' ∧ SR st' G2 w0 w' ∧ VR G2 st'.E w' r v ∧ st'.H = st.H ∧ (∀ q, G2.tk st.E.length = some q → w.heap.size ≤ q.g) ∧ ∀ a, Im G1 a → (w'.cell? a).isSome = true → Im G2 a := by
  have hbel : Below w.heap.size w w' := by have := hs1.below; rwa [hB] at this
  have hk : Keep G.B w w' := Keep.of_below hbel hs.base
  have hnone : G.tk st.E.length = none := by
    cases hq : G.tk st.E.length with
    | none => rfl
    | some r => exact absurd (SR_tok_lt hs hq) (by simp)
  have plain : VR G st.E w' r v → st' = st → ∃ G2, Ext G st.E w G2 st'.E w' ∧ SR st' G2 w0 w' ∧ VR G2 st'.E w' r v ∧ st'.H = st.H ∧ (∀ q, G2.tk st.E.length = some q → w.heap.size ≤ q.g) ∧ ∀ a, Im G1 a → (w'.cell? a).isSome = true → Im G2 a := by
    rintro hv rfl
    exact ⟨G, Ext_keep hk, SR_keep hs hk, hv, rfl, fun q hq => (by rw [hnone] at hq; cases hq), fun a ha _ => Im_up hs hB hA a ha⟩
  unfold ret1 at h
  split at h
  · rename_i nl n cs k
    split at h
    · rename_i hc
      obtain ⟨hE, rfl⟩ := hc
      simp at h
      obtain ⟨rfl, rfl⟩ := h
      unfold VR at hv
      rcases hv with ⟨hv, _⟩ | ⟨_, ad, cap, rfl, hcap, hD, hk1, hk2, hk3⟩
      · cases hv
      · obtain ⟨q, hq, rfl, rfl, hql⟩ := hk3 hE
        obtain ⟨t1, t2, t3, ⟨n', t4, t5, t6⟩, arr, e, fz, t7, t8, t9⟩ := hs1.tok _ q hq
        rw [hB] at t1
        have hn : n' = n := by rw [hE] at t4; injection t4 with t4; exact t4.symm
        subst hn
        have hx2 := Ext_newtok (w1 := w') (r := q) (n := n') hs (fun a ha => hk.cell ha) t1
        have him : ∀ a, Im G1 a → Im (G.tok st.E.length q) a := by
          intro a ha
          rcases Im_up hs hB hA a ha with h | ⟨h1, h2, h3⟩
          · exact .inl h
          · refine .inr ⟨h1, h2, fun i r hi he => ?_⟩
            simp only [Gh.tok] at hi
            split at hi
            · injection hi with hi; subst hi
              rcases ha with ⟨ha, _⟩ | ⟨_, _, ha⟩
              · omega
              · exact ha k _ hq he
            · exact h3 i r hi he
        refine ⟨G.tok st.E.length q, hx2, SR_newtok hs hk hx2 (Nat.le_trans hs.base t1) t2 t3 t5 t6 t7 t8 t9 (fun i x hi => ?_) (fun j x hj => ?_), ?_, rfl, fun q' hq' => ?_, fun a ha _ => him a ha⟩
        · have := (hs.box i x hi).2.1; omega
        · have := (hs.tok j x hj).2.1; omega
        · unfold VR
          refine .inr ⟨rfl, _, _, rfl, hcap, DRL_mono (fun a ha _ => ⟨him a ha, rfl⟩) _ _ 0 hD, by simp, by simp, fun _ => ⟨q, by simp [Gh.tok], rfl, rfl, hql⟩⟩
        · simp [Gh.tok] at hq'
          subst hq'
          exact t1
    · simp at h
      obtain ⟨rfl, rfl⟩ := h
      refine plain ?_ rfl
      unfold VR at hv ⊢
      rcases hv with hv | ⟨h1, ad, cap, h2, h3, h4, h5⟩
      · exact .inl hv
      · exact .inr ⟨h1, ad, cap, h2, h3, DRL_mono (fun a ha hs' => ⟨Im_up hs hB hA a ha, rfl⟩) ad _ 0 h4, trivial⟩
  · rename_i id n c
    split at h
    · rename_i hnc
      subst hnc
      split at h
      · rename_i cs hcs
        cases hd : T.toDs cs with
        | none => simp [hd] at h
        | some ds =>
          simp [hd] at h
          obtain ⟨rfl, rfl⟩ := h
          refine plain ?_ rfl
          unfold VR at hv
          obtain ⟨g, c, hg, rfl, hle⟩ := hv
          obtain ⟨b1, b2, b, hb, hR⟩ := hs1.box id g hg
          rw [hB] at b1
          rw [hb] at hcs; injection hcs with hcs; subst hcs
          obtain ⟨arr, e, fz, k1, k2, k3, k4⟩ := hR
          obtain ⟨l1, l2⟩ := toDs_get hd
          unfold VR
          refine .inr ⟨rfl, _, _, rfl, hle, DRL_mk fun i x hx => ?_, trivial⟩
          obtain ⟨t, ht, hxt⟩ := l2 i x hx
          obtain ⟨_, u, hu, hvu⟩ := k4 i t ht
          refine ⟨.inr ⟨by rw [Addr.block_add]; exact Nat.le_trans hs.base b1, fun id' g' hg' => ?_, fun j r hr he => ?_⟩, u, ?_, DR_mono (fun a ha hs' => ⟨Im_up hs hB hA a ha, rfl⟩) _ _ (VR_toD hvu hxt)⟩
          · have := (hs.box id' g' hg').2.1
            rw [Addr.block_add]
            simp
            omega
          · have := (hs.tok j r hr).2.1
            rw [Addr.block_add] at he
            simp at he
            omega
          · rw [Nat.zero_add, Addr.add_none, Nat.zero_add, cell_of_block k1]
            exact hu
      · simp at h
    · simp at h
  · rename_i t' _ _
    cases hc : closeT t with
    | none => simp [hc] at h
    | some t' =>
      simp [hc] at h
      obtain ⟨rfl, rfl⟩ := h
      exact plain (closeT_ok (fun a ha _ => Im_up hs hB hA a ha) hv hc) rfl

theorem ret_ok {t r : T} {v : Value} (hs : SR st G w0 w) (hB : G1.B = w.heap.size) (hA : G1.A = Im G) (hs1 : SR s G1 w w') (hv : VR G1 s.E w' t v) (h : retV s st t = some (r, st')) :
    ∃ G2, Ext G st.E w G2 st'.E w' ∧ SR st' G2 w0 w' ∧ VR G2 st'.E w' r v ∧ st'.H = st.H ∧ ∀ q, G2.tk st.E.length = some q → w.heap.size ≤ q.g := by
  unfold retV at h
  split at h
  · simp at h
    obtain ⟨rfl, rfl⟩ := h
    have hbel : Below w.heap.size w w' := by have := hs1.below; rwa [hB] at this
    have hk : Keep G.B w w' := Keep.of_below hbel hs.base
    refine ⟨G, Ext_keep hk, SR_keep hs hk, ?_, rfl, fun q hq => absurd (SR_tok_lt hs hq) (by simp)⟩
    unfold VR at hv ⊢
    obtain ⟨vs, h1, h2⟩ := hv
    refine ⟨vs, h1, ?_⟩
    cases hvs : vs.toList with
    | nil => unfold VRL; trivial
    | cons v l => rw [hvs] at h2; unfold VRL at h2; exact h2.elim
  · rename_i t ts
    split at h
    · rename_i a st1 b h1 h2
      simp at h
      obtain ⟨rfl, rfl⟩ := h
      unfold VR at hv
      obtain ⟨vs, e1, e2⟩ := hv
      cases hvs : vs.toList with
      | nil => rw [hvs] at e2; unfold VRL at e2; exact e2.elim
      | cons v l =>
        rw [hvs] at e2
        unfold VRL at e2
        obtain ⟨G2, k1, k2, k3, k4, k5, k6⟩ := ret1_ok hs hB hA hs1 e2.1 h1
        refine ⟨G2, k1, k2, ?_, k4, k5⟩
        unfold VR
        refine ⟨vs, e1, ?_⟩
        rw [hvs]
        unfold VRL
        exact ⟨k3, closeAll_ok k6 e2.2 h2⟩
    · simp at h
  · obtain ⟨G2, k1, k2, k3, k4, k5, k6⟩ := ret1_ok hs hB hA hs1 hv h
    exact ⟨G2, k1, k2, k3, k4, k5⟩
end

end Go.Tm
end
section
set_option linter.unusedVariables false
set_option linter.unusedSimpArgs false
namespace Go.Tm
open Go Go.RowKit

def Enters (P : Program) (g : Nat) : Prop := ∃ fn, P.funcs[g]? = some fn ∧ (fn.name == "runtime.NumGoroutine") = false ∧ fn.body.isNone = false

/-- What is asked of a function that the machine takes as given. -/
def PrimOK (C : Cfg) : Prop := ∀ g p as r s, C.prim g = some p → p as = some (r, s) → Enters C.P g ∧
  ∀ (J : Addr → Prop) (w : World) (args : Array Value), VRL (GJ J w) [] w as args.toList → Calls C.P g args w (fun e w' => ∃ v G, e = .returned v ∧ G.B = w.heap.size ∧ G.A = J ∧ SR s G w w' ∧ VR G s.E w' r v)

structure Good (C : Cfg) : Prop where
  mixed : C.P.follows .mixedOrders = true
  ok : ∀ f, C.ok f = true → fnOK C f = true
  prim : PrimOK C

theorem codeOK_mono {C : Cfg} {f n m : Nat} (hnm : n ≤ m) : ∀ (c : Code), codeOK C f n c = true → codeOK C f m c = true := by
  intro c
  induction c with
  | region id ops draw =>
    intro h
    simp only [codeOK, Bool.and_eq_true] at h ⊢
    refine ⟨List.all_eq_true.2 fun o ho => ?_, h.2⟩
    have := List.all_eq_true.1 h.1 o ho
    cases hd : o.dst with
    | none => rfl
    | some d => simp [hd] at this ⊢; exact Nat.lt_of_lt_of_le this hnm
  | seq x y ihx ihy => intro h; simp only [codeOK, Bool.and_eq_true] at h ⊢; exact ⟨ihx h.1, ihy h.2⟩
  | cond c x y ihx ihy => intro h; simp only [codeOK, Bool.and_eq_true] at h ⊢; exact ⟨ihx h.1, ihy h.2⟩
  | block id x ih => intro h; simp only [codeOK] at h ⊢; exact ih h
  | loop x ih => intro h; simp only [codeOK] at h ⊢; exact ih h
  | _ => intros; rfl

theorem lookF_enum : ∀ (ts : List T) (k s : Nat) (t : T), lookF (enumF k ts) s = some t → k ≤ s ∧ ts[s - k]? = some t
  | [], k, s, t, h => by simp [enumF, lookF] at h
  | x :: xs, k, s, t, h => by
    simp only [enumF, lookF] at h
    split at h
    · rename_i e
      subst e
      simp at h
      subst h
      simp
    · rename_i hne
      obtain ⟨h1, h2⟩ := lookF_enum xs (k + 1) s t h
      refine ⟨by omega, ?_⟩
      rw [show s - k = (s - (k + 1)) + 1 by omega]
      simpa using h2

theorem body_ok {C : Cfg} {call : CallF} {f n : Nat} {fn : Func} {c : Code} {as : List T} {st st' : St} {r : T} {G : Gh} {w0 w : World} {args : Array Value} {R : Ending → World → Prop} (hpm : C.pure f = true → st.H.length = 0) (hm : C.P.follows .mixedOrders = true) (hcall : CallOK C call) (hH : CallH C call)
    (hf : C.P.funcs[f]? = some fn) (hb : fn.body = some c) (hok : codeOK C f fn.ntmps c = true) (h : runB C call n f fn as st = some (r, st')) (hs : SR st G w0 w) (hv : VRL G st.E w as args.toList)
    (hR : ∀ v w' G', Ext G st.E w G' st'.E w' → SR st' G' w0 w' → VR G' st'.E w' r v → R (.returned v) w') : Calls C.P f args w R := by
  refine calls_of_wp hf hb ?_
  unfold runB at h
  simp only [hb] at h
  have hN : codeOK C f (args.size + (fn.ntmps - args.size)) c = true := codeOK_mono (by omega) c hok
  have hfr : FR (args.size + (fn.ntmps - args.size)) G st.E w (enumF 0 as) { tmps := args ++ Array.replicate (fn.ntmps - args.size) undef, defers := [] } := by
    refine ⟨by simp, fun s t hl => ?_⟩
    obtain ⟨_, h2⟩ := lookF_enum as 0 s t hl
    simp only [Nat.sub_zero] at h2
    obtain ⟨v, h3, h4⟩ := VRL_get hv s t h2
    have hlt := (List.getElem?_eq_some_iff.1 h3).1
    simp at hlt
    refine ⟨by omega, ?_⟩
    have : Act.eval { tmps := args ++ Array.replicate (fn.ntmps - args.size) undef, defers := [] } (.tmp s) = v := by
      simp only [Act.eval, Array.getD_eq_getD_getElem?]
      rw [Array.getElem?_append_left hlt]
      simp only [Array.getElem?_toList] at h3
      rw [h3]
      rfl
    rw [this]
    exact h4
  have post : ∀ (ex : Ex) (fr' : Fr) (st1 : St), (ex = .normal ∨ ex = .ret) → runC C call n f c (enumF 0 as) st = some (ex, fr', st1) → (resT C fn fr' st1.H).map (fun t => (t, st1)) = some (r, st') →
      c.wp C.P (bodyPost C.P fn R) { tmps := args ++ Array.replicate (fn.ntmps - args.size) undef, defers := [] } w := by
    intro ex fr' st1 hex hrun hres
    cases hr : resT C fn fr' st1.H with
    | none => simp [hr] at hres
    | some t =>
      simp [hr] at hres
      obtain ⟨rfl, rfl⟩ := hres
      refine code_ok (m := st.H.length) hpm hm hcall hH c _ _ _ _ _ _ G w _ hN hrun hfr hs fun a' w' G' k1 k2 k3 k4 => ?_
      have k2 := k2.ext hs
      obtain ⟨v, l1, l2⟩ := res_ok k4 k3 hr
      rcases hex with rfl | rfl
      · exact ⟨k1, v, l1, hR v w' G' k2 k3 l2⟩
      · exact ⟨k1, v, l1, hR v w' G' k2 k3 l2⟩
  split at h
  · rename_i fr' st1 hrun
    exact post _ _ _ (.inl rfl) hrun h
  · rename_i fr' st1 hrun
    exact post _ _ _ (.inr rfl) hrun h
  · simp at h

theorem enters_of {C : Cfg} {g : Nat} (h : fnOK C g = true) : Enters C.P g ∧ ∀ fn, C.P.funcs[g]? = some fn → ∃ c, fn.body = some c ∧ codeOK C g fn.ntmps c = true := by
  unfold fnOK at h
  split at h
  · rename_i fn hfn
    simp only [Bool.and_eq_true, Bool.not_eq_true'] at h
    obtain ⟨h1, h2⟩ := h
    split at h1
    · rename_i c hc
      refine ⟨⟨fn, hfn, h2, by simp [hc]⟩, fun fn' hfn' => ?_⟩
      rw [hfn] at hfn'; injection hfn' with hfn'; subst hfn'
      exact ⟨c, hc, h1⟩
    · simp at h1
  · simp at h

theorem callT_ok {C : Cfg} (hC : Good C) : ∀ k, CallOK C (callT C k) ∧ CallH C (callT C k)
  | 0 => ⟨fun g as st r st' h => by simp [callT] at h, fun g as st r st' _ h => by simp [callT] at h⟩
  | k + 1 => by
    obtain ⟨ihc, ihH⟩ := callT_ok hC k
    constructor
    · intro g as st r st' h
      simp only [callT] at h
      split at h
      · rename_i p hp
        split at h
        · rename_i as' hcl
          split at h
          · rename_i r0 s' hpr
            obtain ⟨he, hrun⟩ := hC.prim g p as' r0 s' hp hpr
            refine ⟨he, fun G w0 w args hs hv => ?_⟩
            have hv' : VRL (GJ (Im G) w) [] w as' args.toList := closeAll_ok (fun a ha hc => .inl ⟨cell_lt hc, ha⟩) hv hcl
            refine (hrun (Im G) w args hv').mono fun e w' ⟨v, G1, he, hB, hA, hs1, hvr⟩ => ?_
            obtain ⟨G2, k1, k2, k3, k4, k5⟩ := ret_ok hs hB hA hs1 hvr h
            exact ⟨v, G2, he, k1, k2, k3, fun _ => ⟨k4, by have := hs1.below; rwa [hB] at this, k5⟩⟩
          · simp at h
        · simp at h
      · split at h
        · simp at h
        · rename_i fn hfn
          unfold Cfg.fn at hfn
          split at hfn
          · rename_i hok
            obtain ⟨he, hbody⟩ := enters_of (hC.ok g hok)
            obtain ⟨c, hb, hco⟩ := hbody fn hfn
            refine ⟨he, ?_⟩
            split at h
            · rename_i hpure
              split at h
              · rename_i as' hcl
                split at h
                · rename_i r0 s' hrun
                  intro G w0 w args hs hv
                  have hv' : VRL (GJ (Im G) w) [] w as' args.toList := closeAll_ok (fun a ha hc => .inl ⟨cell_lt hc, ha⟩) hv hcl
                  refine body_ok (st := ⟨[], []⟩) (w0 := w) (fun _ => rfl) hC.mixed ihc ihH hfn hb hco hrun (SR_fresh (Im G) w) hv' fun v w' G1 h1 h2 h3 => ?_
                  have hB : G1.B = w.heap.size := h1.B
                  obtain ⟨G2, k1, k2, k3, k4, k5⟩ := ret_ok hs hB h1.A h2 h3 h
                  exact ⟨v, G2, rfl, k1, k2, k3, fun _ => ⟨k4, by have := h2.below; rwa [hB] at this, k5⟩⟩
                · simp at h
              · simp at h
            · rename_i hpure
              intro G w0 w args hs hv
              exact body_ok (fun hp => absurd hp hpure) hC.mixed ihc ihH hfn hb hco h hs hv fun v w' G' h1 h2 h3 => ⟨v, G', rfl, h1, h2, h3, fun hp => absurd hp hpure⟩
          · simp at hfn
    · intro g as st r st' hp h
      have back : ∀ (s' : St) (r0 : T), retV s' st r0 = some (r, st') → st'.H = st.H := by
        intro s' r0 h
        have one : ∀ t r st1, ret1 s' st t = some (r, st1) → st1.H = st.H := by
          intro t r st1 h
          unfold ret1 at h
          repeat' (first | split at h | (simp at h; done) | (simp at h; rw [← h.2]) | (simp at h; obtain ⟨_, _, _, h⟩ := h; rw [← h]))
        unfold retV at h
        split at h
        · simp at h; rw [← h.2]
        · split at h
          · rename_i h1 h2
            simp at h
            rw [← h.2]
            exact one _ _ _ h1
          · simp at h
        · exact one _ _ _ h
      simp only [callT] at h
      split at h
      · split at h
        · split at h
          · exact back _ _ h
          · simp at h
        · simp at h
      · rename_i hnp
        split at h
        · simp at h
        · split at h
          · split at h
            · split at h
              · exact back _ _ h
              · simp at h
            · simp at h
          · rename_i hpure
            rcases hp with hp | hp
            · exact absurd hp hpure
            · rw [hnp] at hp; cases hp

/-- A call of the machine, from a world of one's own: every cell that the arguments lie in stays as it is. -/
theorem calls_of {C : Cfg} (hC : Good C) {k g : Nat} {as : List T} {r : T} {st' : St} (h : callT C k g as ⟨[], []⟩ = some (r, st')) {w : World} {args : Array Value} (hv : VRL (GJ (fun _ => True) w) [] w as args.toList) :
    Calls C.P g args w (fun e w' => ∃ v G', e = .returned v ∧ Below w.heap.size w w' ∧ Ext (GJ (fun _ => True) w) [] w G' st'.E w' ∧ VR G' st'.E w' r v) := by
  obtain ⟨_, hrun⟩ := (callT_ok hC k).1 g as _ r st' h
  refine (hrun _ w w args (SR_fresh _ w) hv).mono fun e w' ⟨v, G', h1, h2, h3, h4, _⟩ => ?_
  have hB : G'.B = w.heap.size := h2.B
  exact ⟨v, G', h1, by have := h3.below; rwa [hB] at this, h2, h4⟩

/-- A law that holds. -/
theorem law_of {C : Cfg} (hC : Good C) {k g : Nat} {as : List T} {st' : St} (h : callT C k g as ⟨[], []⟩ = some (.d (.bool true), st')) {w : World} {args : Array Value} (hv : VRL (GJ (fun _ => True) w) [] w as args.toList) :
    Calls C.P g args w (fun e w' => e = .returned (.bool true) ∧ Below w.heap.size w w') :=
  (calls_of hC h hv).mono fun e w' ⟨v, G', h1, h2, h3, h4⟩ => by
    unfold VR at h4
    rw [h1, h4.1]
    exact ⟨rfl, h2⟩

end Go.Tm
end
section
set_option linter.unusedVariables false
set_option linter.unusedSimpArgs false
namespace Go.Tm
open Go

def CallLe (c c' : CallF) : Prop := ∀ g as st r, c g as st = some r → c' g as st = some r

theorem doOp_mono {C : Cfg} {c c' : CallF} {f : Nat} {o : Oper} {fr : Fr} {st : St} {r : Option T × St} (h : CallLe c c') (hr : doOp C c f o fr st = some r) : doOp C c' f o fr st = some r := by
  unfold doOp at hr ⊢
  split at hr
  · rename_i cl hop
    split at hr
    · split at hr
      · rename_i g as hc
        split at hr
        · rename_i t st' hcall
          simp only [h _ _ _ _ hcall]
          exact hr
        · simp at hr
      · simp at hr
    · exact hr
  · exact hr
  · exact hr

theorem runOps_mono {C : Cfg} {c c' : CallF} {f : Nat} {ops : Array Oper} (h : CallLe c c') : ∀ (os : List Oper) (fr : Fr) (st : St) (r : Fr × St), runOps C c f ops os fr st = some r → runOps C c' f ops os fr st = some r
  | [], fr, st, r, hr => hr
  | o :: os, fr, st, r, hr => by
    simp only [runOps] at hr ⊢
    split at hr
    · split at hr
      · rename_i hd
        rw [doOp_mono h hd]
        exact runOps_mono h os _ _ _ hr
      · simp at hr
    · exact runOps_mono h os _ _ _ hr
    · simp at hr

theorem stepAny_mono {C : Cfg} {c c' : CallF} {f : Nat} {ops : Array Oper} {o : Oper} {fr : Fr} {st : St} {r : T × St} (h : CallLe c c') (hr : stepAny C c f ops o fr st = some r) : stepAny C c' f ops o fr st = some r := by
  unfold stepAny at hr ⊢
  split at hr
  · split at hr
    · exact hr
    · exact hr
    · cases hd : doOp C c f o (keepF (o.looksAt ops) fr) st with
      | none => simp [hd] at hr
      | some q => rw [doOp_mono h hd]; rw [hd] at hr; exact hr
  · exact hr
  · exact hr

theorem runAny_mono {C : Cfg} {c c' : CallF} {f : Nat} {ops : Array Oper} (h : CallLe c c') : ∀ (os : List Oper) (fr : Fr) (st : St) (r : Fr × St), runAny C c f ops os fr st = some r → runAny C c' f ops os fr st = some r
  | [], fr, st, r, hr => hr
  | o :: os, fr, st, r, hr => by
    simp only [runAny] at hr ⊢
    split at hr
    · rename_i hd
      rw [stepAny_mono h hd]
      exact runAny_mono h os _ _ _ hr
    · simp at hr

theorem loopT_mono {F F' : Fr → St → Option (Ex × Fr × St)} (h : ∀ fr st r, F fr st = some r → F' fr st = some r) : ∀ (n n' : Nat) (fr : Fr) (st : St) (r : Ex × Fr × St), n ≤ n' → loopT F n fr st = some r → loopT F' n' fr st = some r
  | 0, _, fr, st, r, _, hr => by simp [loopT] at hr
  | n + 1, n', fr, st, r, hn, hr => by
    obtain ⟨m, rfl⟩ : ∃ m, n' = m + 1 := ⟨n' - 1, by omega⟩
    simp only [loopT] at hr ⊢
    split at hr
    · rename_i fr' st' hf
      rw [h _ _ _ hf]
      exact loopT_mono h n m _ _ _ (by omega) hr
    · rename_i hne
      rw [h _ _ _ hr]
      split
      · rename_i h1
        simp at h1
        subst h1
        exact absurd hr (hne _ _)
      · rfl

theorem runC_mono {C : Cfg} {c c' : CallF} {f n n' : Nat} (h : CallLe c c') (hn : n ≤ n') : ∀ (x : Code) (fr : Fr) (st : St) (r : Ex × Fr × St), runC C c n f x fr st = some r → runC C c' n' f x fr st = some r := by
  intro x
  induction x with
  | region id ops draw =>
    intro fr st r hr
    simp only [runC] at hr ⊢
    split at hr
    · rename_i fr0 hn0
      split at hr
      · rename_i fr1 st1 hd
        have : (if draw = true then runAny C c' f ops ops.toList fr0 st else runOps C c' f ops ops.toList fr0 st) = some (fr1, st1) := by
          cases draw with
          | true => exact runAny_mono h _ _ _ _ hd
          | false => exact runOps_mono h _ _ _ _ hd
        simp only [hn0, this]
        exact hr
      · simp at hr
    · simp at hr
  | seq a b iha ihb =>
    intro fr st r hr
    simp only [runC] at hr ⊢
    split at hr
    · rename_i fr1 st1 hd
      rw [iha _ _ _ hd]
      exact ihb _ _ _ hr
    · rename_i hne
      rw [iha _ _ _ hr]
      split
      · rename_i h1
        simp at h1
        subst h1
        exact absurd hr (hne _ _)
      · rfl
  | cond x a b iha ihb =>
    intro fr st r hr
    simp only [runC] at hr ⊢
    split at hr
    · exact iha _ _ _ hr
    · exact ihb _ _ _ hr
    · simp at hr
  | block id a ih =>
    intro fr st r hr
    simp only [runC] at hr ⊢
    split at hr
    · rename_i hd
      rw [ih _ _ _ hd]
      exact hr
    · rename_i hne
      rw [ih _ _ _ hr]
      split
      · rename_i h1
        simp at h1
        subst h1
        exact absurd hr (hne _ _ _)
      · rfl
  | loop a ih =>
    intro fr st r hr
    simp only [runC] at hr ⊢
    exact loopT_mono ih n n' _ _ _ hn hr
  | _ => intro fr st r hr; first | (simp [runC] at hr; done) | exact (by simp only [runC] at hr ⊢; exact hr)

theorem runB_mono {C : Cfg} {c c' : CallF} {f n n' : Nat} {fn : Func} {as : List T} {st : St} {r : T × St} (h : CallLe c c') (hn : n ≤ n') (hr : runB C c n f fn as st = some r) : runB C c' n' f fn as st = some r := by
  unfold runB at hr ⊢
  split at hr
  · split at hr
    · rename_i hd
      rw [runC_mono h hn _ _ _ _ hd]
      exact hr
    · rename_i hd
      rw [runC_mono h hn _ _ _ _ hd]
      exact hr
    · simp at hr
  · simp at hr

theorem callT_mono1 {C : Cfg} : ∀ (k : Nat), CallLe (callT C k) (callT C (k + 1))
  | 0, g, as, st, r, h => by simp [callT] at h
  | k + 1, g, as, st, r, h => by
    have ih := callT_mono1 (C := C) k
    rw [callT] at h ⊢
    split at h
    · exact h
    · split at h
      · simp at h
      · split at h
        · split at h
          · split at h
            · rename_i hd
              simp only [*, if_true]
              rw [runB_mono ih (Nat.le_succ k) hd]
              exact h
            · simp at h
          · simp at h
        · simp only [*, if_false]
          exact runB_mono ih (Nat.le_succ k) h

theorem callT_mono {C : Cfg} {k k' : Nat} (h : k ≤ k') : CallLe (callT C k) (callT C k') := by
  induction h with
  | refl => exact fun _ _ _ _ h => h
  | step _ ih => exact fun g as st r h => callT_mono1 _ _ _ _ _ (ih g as st r h)

end Go.Tm
end
section
set_option linter.unusedVariables false
set_option linter.unusedSimpArgs false
namespace Go.Tm
open Go

open Classical in
noncomputable def lim {α : Type} (F : Nat → Option α) : Option α := if h : ∃ k r, F k = some r then F (Classical.choose h) else none

def Mono {α : Type} (F : Nat → Option α) : Prop := ∀ k k' r, k ≤ k' → F k = some r → F k' = some r

theorem lim_iff {α : Type} {F : Nat → Option α} (hF : Mono F) (r : α) : lim F = some r ↔ ∃ k, F k = some r := by
  unfold lim
  by_cases h : ∃ k r, F k = some r
  · rw [dif_pos h]
    obtain ⟨r', hr'⟩ := Classical.choose_spec h
    constructor
    · exact fun e => ⟨_, e⟩
    · rintro ⟨k, hk⟩
      have h1 := hF _ (max k (Classical.choose h)) _ (Nat.le_max_left _ _) hk
      have h2 := hF _ (max k (Classical.choose h)) _ (Nat.le_max_right _ _) hr'
      rw [hr', ← h1, h2]
  · rw [dif_neg h]
    constructor
    · intro e; simp at e
    · rintro ⟨k, hk⟩; exact absurd ⟨k, r, hk⟩ h

theorem eq_of_some {α : Type} {a b : Option α} (h : ∀ r, a = some r ↔ b = some r) : a = b := by
  cases a with
  | some x => exact ((h x).1 rfl).symm
  | none => cases b with
    | some y => exact (h y).2 rfl
    | none => rfl

section
variable (C : Cfg)

noncomputable def callI (f : Nat) (as : List T) (st : St) : Option (T × St) := lim fun k => callT C k f as st
noncomputable def runI (f : Nat) (c : Code) (fr : Fr) (st : St) : Option (Ex × Fr × St) := lim fun k => runC C (callT C k) k f c fr st
end

variable {C : Cfg}

theorem mono_call (f : Nat) (as : List T) (st : St) : Mono fun k => callT C k f as st := fun k k' r h hr => callT_mono h _ _ _ _ hr
theorem mono_run (f : Nat) (c : Code) (fr : Fr) (st : St) : Mono fun k => runC C (callT C k) k f c fr st := fun k k' r h hr => runC_mono (callT_mono h) h _ _ _ _ hr

theorem run_big {f : Nat} {c : Code} {fr : Fr} {st : St} {k k' : Nat} {r : Ex × Fr × St} (h : k ≤ k') (hr : runC C (callT C k) k f c fr st = some r) : runC C (callT C k') k' f c fr st = some r := runC_mono (callT_mono h) h _ _ _ _ hr

theorem callI_iff {f : Nat} {as : List T} {st : St} {r : T × St} : callI C f as st = some r ↔ ∃ k, callT C k f as st = some r := lim_iff (mono_call f as st) r
theorem runI_iff {f : Nat} {c : Code} {fr : Fr} {st : St} {r : Ex × Fr × St} : runI C f c fr st = some r ↔ ∃ k, runC C (callT C k) k f c fr st = some r := lim_iff (mono_run f c fr st) r

theorem le_callI (k : Nat) : CallLe (callT C k) (callI C) := fun g as st r h => callI_iff.2 ⟨k, h⟩

theorem doOp_iff {f : Nat} {o : Oper} {fr : Fr} {st : St} {r : Option T × St} : doOp C (callI C) f o fr st = some r ↔ ∃ k, doOp C (callT C k) f o fr st = some r := by
  constructor
  · intro h
    unfold doOp at h
    split at h
    · rename_i cl hop
      split at h
      · rename_i x hx
        split at h
        · rename_i g as hc
          split at h
          · rename_i t st' hcall
            obtain ⟨k, hk⟩ := callI_iff.1 hcall
            refine ⟨k, ?_⟩
            unfold doOp
            simp only [hop, hx, hc, hk]
            exact h
          · simp at h
        · simp at h
      · rename_i hne
        refine ⟨0, ?_⟩
        unfold doOp
        simp only [hop]
        exact h
    · rename_i hop
      refine ⟨0, ?_⟩
      unfold doOp
      simp only [hop]
      exact h
    · rename_i h1 h2
      refine ⟨0, ?_⟩
      unfold doOp
      split
      · rename_i c hop; exact absurd hop (h1 c)
      · rename_i a b c hop; exact absurd hop (h2 a b c)
      · exact h
  · rintro ⟨k, hk⟩
    exact doOp_mono (le_callI k) hk

theorem runOps_iff {f : Nat} {ops : Array Oper} : ∀ {os : List Oper} {fr : Fr} {st : St} {r : Fr × St}, runOps C (callI C) f ops os fr st = some r ↔ ∃ k, runOps C (callT C k) f ops os fr st = some r := by
  intro os fr st r
  constructor
  · intro h
    induction os generalizing fr st with
    | nil => exact ⟨0, h⟩
    | cons o os ih =>
      simp only [runOps] at h ⊢
      split at h
      · split at h
        · rename_i r1 st1 hd
          obtain ⟨k1, h1⟩ := doOp_iff.1 hd
          obtain ⟨k2, h2⟩ := ih h
          refine ⟨max k1 k2, ?_⟩
          rw [doOp_mono (callT_mono (Nat.le_max_left k1 k2)) h1]
          exact runOps_mono (callT_mono (Nat.le_max_right k1 k2)) _ _ _ _ h2
        · simp at h
      · exact ih h
      · simp at h
  · rintro ⟨k, hk⟩
    exact runOps_mono (le_callI k) _ _ _ _ hk

theorem stepAny_iff {f : Nat} {ops : Array Oper} {o : Oper} {fr : Fr} {st : St} {r : T × St} : stepAny C (callI C) f ops o fr st = some r ↔ ∃ k, stepAny C (callT C k) f ops o fr st = some r := by
  constructor
  · intro h
    unfold stepAny at h ⊢
    split at h
    · split at h
      · exact ⟨0, h⟩
      · exact ⟨0, h⟩
      · cases hd : doOp C (callI C) f o (keepF (o.looksAt ops) fr) st with
        | none => simp [hd] at h
        | some q =>
          obtain ⟨k, hk⟩ := doOp_iff.1 hd
          refine ⟨k, ?_⟩
          rw [hd] at h
          rw [hk]
          exact h
    · exact ⟨0, h⟩
    · simp at h
  · rintro ⟨k, hk⟩
    exact stepAny_mono (le_callI k) hk

theorem runAny_iff {f : Nat} {ops : Array Oper} : ∀ {os : List Oper} {fr : Fr} {st : St} {r : Fr × St}, runAny C (callI C) f ops os fr st = some r ↔ ∃ k, runAny C (callT C k) f ops os fr st = some r := by
  intro os fr st r
  constructor
  · intro h
    induction os generalizing fr st with
    | nil => exact ⟨0, h⟩
    | cons o os ih =>
      simp only [runAny] at h ⊢
      split at h
      · rename_i r1 st1 hd
        obtain ⟨k1, h1⟩ := stepAny_iff.1 hd
        obtain ⟨k2, h2⟩ := ih h
        refine ⟨max k1 k2, ?_⟩
        rw [stepAny_mono (callT_mono (Nat.le_max_left k1 k2)) h1]
        exact runAny_mono (callT_mono (Nat.le_max_right k1 k2)) _ _ _ _ h2
      · simp at h
  · rintro ⟨k, hk⟩
    exact runAny_mono (le_callI k) _ _ _ _ hk

/-! ### the equations -/
theorem runI_skip {f : Nat} {fr : Fr} {st : St} : runI C f .skip fr st = some (.normal, fr, st) := runI_iff.2 ⟨0, rfl⟩
theorem runI_exit {f id : Nat} {fr : Fr} {st : St} : runI C f (.exit id) fr st = some (.exit id, fr, st) := runI_iff.2 ⟨0, rfl⟩
theorem runI_ret {f : Nat} {fr : Fr} {st : St} : runI C f .ret fr st = some (.ret, fr, st) := runI_iff.2 ⟨0, rfl⟩

/-- What a region hands on. -/
def keepI (ks : List Nat) (o : Option Nat) : Option (Fr × St) → Option (Ex × Fr × St)
  | some (fr', st') => match needF ks fr' with
    | some fr' => some (.normal, (frzO o fr' st').1, (frzO o fr' st').2)
    | none => none
  | none => none

theorem runI_region {f id : Nat} {ops : Array Oper} {fr : Fr} {st : St} : runI C f (.region id ops false) fr st =
    match needF (C.live f id) fr with
    | some fr => keepI (C.keep f id) (C.frzOf f id) (runOps C (callI C) f ops ops.toList fr st)
    | none => none := by
  refine eq_of_some fun r => ?_
  rw [runI_iff]
  simp only [runC, Bool.false_eq_true, if_false]
  cases hn : needF (C.live f id) fr with
  | none => simp
  | some fr0 =>
    simp only [keepI]
    constructor
    · rintro ⟨k, hk⟩
      split at hk
      · rename_i h; rw [runOps_iff.2 ⟨k, h⟩]; exact hk
      · simp at hk
    · intro h
      split at h
      · rename_i h1
        obtain ⟨k, hk⟩ := runOps_iff.1 h1
        exact ⟨k, by rw [hk]; exact h⟩
      · simp at h

theorem runI_draw {f id : Nat} {ops : Array Oper} {fr : Fr} {st : St} : runI C f (.region id ops true) fr st =
    match needF (C.live f id) fr with
    | some fr => keepI (C.keep f id) (C.frzOf f id) (runAny C (callI C) f ops ops.toList fr st)
    | none => none := by
  refine eq_of_some fun r => ?_
  rw [runI_iff]
  simp only [runC, if_true]
  cases hn : needF (C.live f id) fr with
  | none => simp
  | some fr0 =>
    simp only [keepI]
    constructor
    · rintro ⟨k, hk⟩
      split at hk
      · rename_i h; rw [runAny_iff.2 ⟨k, h⟩]; exact hk
      · simp at hk
    · intro h
      split at h
      · rename_i h1
        obtain ⟨k, hk⟩ := runAny_iff.1 h1
        exact ⟨k, by rw [hk]; exact h⟩
      · simp at h

/-- What stands behind, after an ordinary end. -/
def thenI (k : Fr → St → Option (Ex × Fr × St)) : Option (Ex × Fr × St) → Option (Ex × Fr × St)
  | some (.normal, fr', st') => k fr' st'
  | r => r

theorem runI_seq {f : Nat} {a b : Code} {fr : Fr} {st : St} : runI C f (.seq a b) fr st = thenI (fun fr' st' => runI C f b fr' st') (runI C f a fr st) := by
  refine eq_of_some fun r => ?_
  rw [runI_iff]
  simp only [runC]
  constructor
  · rintro ⟨k, hk⟩
    split at hk
    · rename_i h; rw [runI_iff.2 ⟨k, h⟩]; exact runI_iff.2 ⟨k, hk⟩
    · rename_i hne
      rw [runI_iff.2 ⟨k, hk⟩]
      unfold thenI
      split
      · rename_i h1; simp at h1; subst h1; exact absurd hk (hne _ _)
      · rfl
  · intro h
    unfold thenI at h
    split at h
    · rename_i h1
      obtain ⟨k1, hk1⟩ := runI_iff.1 h1
      obtain ⟨k2, hk2⟩ := runI_iff.1 h
      refine ⟨max k1 k2, ?_⟩
      rw [run_big (Nat.le_max_left k1 k2) hk1]
      exact run_big (Nat.le_max_right k1 k2) hk2
    · rename_i hne
      obtain ⟨k, hk⟩ := runI_iff.1 h
      refine ⟨k, ?_⟩
      rw [hk]
      split
      · rename_i h1; simp at h1; subst h1; exact absurd h (hne _ _)
      · rfl

theorem runI_cond {f : Nat} {c : Operand} {x y : Code} {fr : Fr} {st : St} : runI C f (.cond c x y) fr st =
    match opd fr c with
    | some (.d (.bool true)) => runI C f x fr st
    | some (.d (.bool false)) => runI C f y fr st
    | _ => none := by
  refine eq_of_some fun r => ?_
  rw [runI_iff]
  simp only [runC]
  constructor
  · rintro ⟨k, hk⟩
    split at hk
    · rename_i hx; simp only [hx]; exact runI_iff.2 ⟨k, hk⟩
    · rename_i hx; simp only [hx]; exact runI_iff.2 ⟨k, hk⟩
    · simp at hk
  · intro h
    split at h
    · rename_i hx; simp only [hx]; exact runI_iff.1 h
    · rename_i hx; simp only [hx]; exact runI_iff.1 h
    · simp at h

def blockI (id : Nat) : Option (Ex × Fr × St) → Option (Ex × Fr × St)
  | some (.exit i, fr', st') => if i = id then some (.normal, fr', st') else some (.exit i, fr', st')
  | r => r

theorem runI_block {f id : Nat} {b : Code} {fr : Fr} {st : St} : runI C f (.block id b) fr st = blockI id (runI C f b fr st) := by
  refine eq_of_some fun r => ?_
  rw [runI_iff]
  simp only [runC]
  constructor
  · rintro ⟨k, hk⟩
    split at hk
    · rename_i h; rw [runI_iff.2 ⟨k, h⟩]; exact hk
    · rename_i hne
      rw [runI_iff.2 ⟨k, hk⟩]
      unfold blockI
      split
      · rename_i h1; simp at h1; subst h1; exact absurd hk (hne _ _ _)
      · rfl
  · intro h
    unfold blockI at h
    split at h
    · rename_i h1
      obtain ⟨k, hk⟩ := runI_iff.1 h1
      exact ⟨k, by rw [hk]; exact h⟩
    · rename_i hne
      obtain ⟨k, hk⟩ := runI_iff.1 h
      refine ⟨k, ?_⟩
      rw [hk]
      split
      · rename_i h1; simp at h1; subst h1; exact absurd h (hne _ _ _)
      · rfl

theorem runI_loop {f : Nat} {b : Code} {fr : Fr} {st : St} : runI C f (.loop b) fr st = thenI (fun fr' st' => runI C f (.loop b) fr' (gcT st.H.length fr' st')) (runI C f b fr st) := by
  refine eq_of_some fun r => ?_
  rw [runI_iff]
  simp only [runC]
  constructor
  · rintro ⟨k, hk⟩
    cases k with
    | zero => simp [loopT] at hk
    | succ k =>
      simp only [loopT] at hk
      split at hk
      · rename_i h
        rw [runI_iff.2 ⟨k + 1, h⟩]
        refine runI_iff.2 ⟨k + 1, ?_⟩
        simp only [runC]
        exact loopT_mono (fun _ _ _ h => h) k (k + 1) _ _ _ (Nat.le_succ k) hk
      · rename_i hne
        rw [runI_iff.2 ⟨k + 1, hk⟩]
        unfold thenI
        split
        · rename_i h1; simp at h1; subst h1; exact absurd hk (hne _ _)
        · rfl
  · intro h
    unfold thenI at h
    split at h
    · rename_i h1
      obtain ⟨k1, hk1⟩ := runI_iff.1 h1
      obtain ⟨k2, hk2⟩ := runI_iff.1 h
      simp only [runC] at hk2
      refine ⟨max k1 k2 + 1, ?_⟩
      simp only [loopT]
      rw [run_big (show k1 ≤ max k1 k2 + 1 by omega) hk1]
      exact loopT_mono (fun _ _ _ h => runC_mono (callT_mono (by omega)) (by omega) _ _ _ _ h) k2 (max k1 k2) _ _ _ (Nat.le_max_right _ _) hk2
    · rename_i hne
      obtain ⟨k, hk⟩ := runI_iff.1 h
      refine ⟨k + 1, ?_⟩
      simp only [loopT]
      rw [run_big (show k ≤ k + 1 by omega) hk]
      split
      · rename_i h1; simp at h1; subst h1; exact absurd h (hne _ _)
      · rfl

/-- A body. -/
noncomputable def bodyI (C : Cfg) (f : Nat) (fn : Func) (args : List T) (st : St) : Option (T × St) :=
  match fn.body with
  | some c =>
    match runI C f c (enumF 0 args) st with
    | some (.normal, fr, st') | some (.ret, fr, st') => (resT C fn fr st'.H).map fun t => (t, st')
    | _ => none
  | none => none

theorem bodyI_iff {f : Nat} {fn : Func} {as : List T} {st : St} {r : T × St} : bodyI C f fn as st = some r ↔ ∃ k, runB C (callT C k) k f fn as st = some r := by
  unfold bodyI runB
  cases hb : fn.body with
  | none => simp
  | some c =>
    simp only
    constructor
    · intro h
      split at h
      · rename_i h1
        obtain ⟨k, hk⟩ := runI_iff.1 h1
        exact ⟨k, by rw [hk]; exact h⟩
      · rename_i h1
        obtain ⟨k, hk⟩ := runI_iff.1 h1
        exact ⟨k, by rw [hk]; exact h⟩
      · simp at h
    · rintro ⟨k, h⟩
      split at h
      · rename_i h1
        rw [runI_iff.2 ⟨k, h1⟩]; exact h
      · rename_i h1
        rw [runI_iff.2 ⟨k, h1⟩]; exact h
      · simp at h

theorem callI_pure {f : Nat} {fn : Func} {as : List T} {st : St} (h1 : C.prim f = none) (h2 : C.fn f = some fn) (h3 : C.pure f = true) : callI C f as st =
    match closeAll as with
    | some as => match bodyI C f fn as ⟨[], []⟩ with
      | some (r, s') => retV s' st r
      | none => none
    | none => none := by
  refine eq_of_some fun r => ?_
  rw [callI_iff]
  constructor
  · rintro ⟨k, hk⟩
    cases k with
    | zero => simp [callT] at hk
    | succ k =>
      simp only [callT, h1, h2, h3, if_true] at hk
      split at hk
      · rename_i hcl
        simp only [hcl]
        split at hk
        · rename_i h4; rw [bodyI_iff.2 ⟨k, h4⟩]; exact hk
        · simp at hk
      · simp at hk
  · intro h
    split at h
    · split at h
      · rename_i h4
        obtain ⟨k, hk⟩ := bodyI_iff.1 h4
        refine ⟨k + 1, ?_⟩
        simp only [callT, h1, h2, h3, if_true, *]
      · simp at h
    · simp at h

theorem callI_inl {f : Nat} {fn : Func} {as : List T} {st : St} (h1 : C.prim f = none) (h2 : C.fn f = some fn) (h3 : C.pure f = false) : callI C f as st = bodyI C f fn as st := by
  refine eq_of_some fun r => ?_
  rw [callI_iff, bodyI_iff]
  constructor
  · rintro ⟨k, hk⟩
    cases k with
    | zero => simp [callT] at hk
    | succ k =>
      simp only [callT, h1, h2, h3, Bool.false_eq_true, if_false] at hk
      exact ⟨k, hk⟩
  · rintro ⟨k, hk⟩
    refine ⟨k + 1, ?_⟩
    simp only [callT, h1, h2, h3, Bool.false_eq_true, if_false]
    exact hk

theorem callI_prim {f : Nat} {p : List T → Option (T × St)} {as : List T} {st : St} (h1 : C.prim f = some p) : callI C f as st =
    match closeAll as with
    | some as => match p as with
      | some (r, s') => retV s' st r
      | none => none
    | none => none := by
  refine eq_of_some fun r => ?_
  rw [callI_iff]
  constructor
  · rintro ⟨k, hk⟩
    cases k with
    | zero => simp [callT] at hk
    | succ k => simp only [callT, h1] at hk; exact hk
  · intro h
    exact ⟨1, by simp only [callT, h1]; exact h⟩

end Go.Tm
end
section
set_option linter.unusedVariables false
set_option linter.unusedSimpArgs false
namespace Go.Tm
open Go

/-- First this, then that. -/
def ob {α β : Type} (x : Option α) (k : α → Option β) : Option β :=
  match x with
  | some a => k a
  | none => none
theorem ob_some {α β : Type} (a : α) (k : α → Option β) : ob (some a) k = k a := rfl
theorem ob_none {α β : Type} (k : α → Option β) : ob none k = none := rfl
theorem ob_congr {α β : Type} {x y : Option α} {k : α → Option β} (h : x = y) : ob x k = ob y k := by rw [h]
theorem ob_assoc {α β γ : Type} (x : Option α) (k : α → Option β) (j : β → Option γ) : ob (ob x k) j = ob x fun a => ob (k a) j := by cases x <;> rfl

/-- Three ways: a test that was not made; true; false. -/
def gC {β : Type} (v : T) (a b c : Option β) : Option β :=
  match v with
  | .d (.bool true) => b
  | .d (.bool false) => c
  | .tup [] => a
  | _ => none
theorem gC_bool {β : Type} (x : Bool) (a b c : Option β) : gC (.d (.bool x)) a b c = if x = true then b else c := by cases x <;> rfl
theorem gC_true {β : Type} (a b c : Option β) : gC (.d (.bool true)) a b c = b := rfl
theorem gC_false {β : Type} (a b c : Option β) : gC (.d (.bool false)) a b c = c := rfl
theorem gC_undef {β : Type} (a b c : Option β) : gC (.tup []) a b c = a := rfl
theorem gC_congr {β : Type} {v w : T} {a b c : Option β} (h : v = w) : gC v a b c = gC w a b c := by rw [h]

/-- If it may be done. -/
def gt {β : Type} (p : Prop) [Decidable p] (x : Option β) : Option β := if p then x else none
theorem gt_pos {β : Type} {p : Prop} [Decidable p] (h : p) (x : Option β) : gt p x = x := if_pos h
theorem gt_congr {β : Type} {p q : Prop} [Decidable p] [Decidable q] {x : Option β} (h : p = q) : gt p x = gt q x := by subst h; unfold gt; congr

/-! ### single operations -/
def flatQ (P : Program) (op : Op) (ts : List T) : Option T :=
  match ts.mapM T.val with
  | some vs =>
    (match op, vs with
    | .binOp op t x y _, [a, b] => evS P (do eqGuard op t x y a b; binOp op t a b)
    | .unOp op _ _, [a] => evS P (Op.unary op a)
    | .convert s d _, [a] => evS P (convert s d a)
    | .field t _ f, [a] => evS P (Instr.field t a f)
    | .index t _ _, [a, i] => evS P (Instr.index t a i)
    | .makeInterface t _, [a] => evS P (Instr.makeInterface t a)
    | _, _ => none).bind T.ofVal
  | none => none

def binV (P : Program) (o : Op) (op : BinOp) (t : TypeId) (u : TypeDesc) (a b : T) : Option T :=
  match nilEq u a b, op with
  | some r, .eql => some (.d (.bool r))
  | some r, .neq => some (.d (.bool (!r)))
  | some _, _ => none
  | none, _ => match fastOp op a b with
    | some r => some r
    | none => match eqR op (eqT P t a b) with
      | some r => some r
      | none => flatQ P o [a, b]

def indexV (P : Program) (o : Op) (t : TypeId) (a b : T) : Option T :=
  match strIx P t a b with
  | some r => some r
  | none => flatQ P o [a, b]

def notV (P : Program) (o : Op) (op : UnOp) (a : T) : Option T :=
  match op, a with
  | .not, .d (.bool b) => some (.d (.bool !b))
  | _, _ => flatQ P o [a]

def nilV : T → Option T
  | .ptr id off => some (.ptr id off)
  | .el cs i => some (.el cs i)
  | _ => none

def loadV (n : Nat) (agg : Bool) (H : List Box) : T → Option T
  | .ptr id off =>
    match H[id]? with
    | some (.cells cs) => (pieceL cs off n).bind (ofCells agg)
    | _ => none
  | .el cs j => (pieceL cs j n).bind fun ds => ofCells agg (ds.map D.toT)
  | _ => none

def storeV (n : Nat) (H : List Box) (a v : T) : Option (List Box) :=
  match a with
  | .ptr id off =>
    match H[id]? with
    | some (.cells cs) =>
      if v.cells.length = n ∧ v.cells.all T.one = true then
        (putAt cs off v.cells).map fun cs' => H.set id (.cells cs')
      else none
    | _ => none
  | _ => none

def addrV (off : Nat) : T → Option T
  | .ptr id o => some (.ptr id (o + off))
  | .el cs j => some (.el cs (j + off))
  | _ => none

def fieldW (off n : Nat) (agg : Bool) : T → Option T
  | .agg cs => (pieceL cs off n).bind (ofCells agg)
  | _ => none

def ixV (n : Nat) (a i : T) : Option T :=
  match a, intV (some i) with
  | .sl false m cs _, some i => if 0 ≤ i ∧ i < m then some (.el cs (i.toNat * n)) else none
  | .loc id off m _, some i => if 0 ≤ i ∧ i < m then some (.ptr id (off + i.toNat * n)) else none
  | _, _ => none

def ixA (m n : Nat) (a i : T) : Option T :=
  match a, intV (some i) with
  | .ptr id off, some i => if 0 ≤ i ∧ i < m then some (.ptr id (off + i.toNat * n)) else none
  | _, _ => none

/-- How long, by the type's kind. -/
def lenV (u : TypeDesc) (H : List Box) (a : T) : Option T :=
  match u, a with
  | .string, .d (.string s) => some (.d (.int .i64 s.size))
  | .slice _, .sl _ n _ _ => some (.d (.int .i64 n))
  | .slice _, .loc _ _ n _ => some (.d (.int .i64 n))
  | .map _ _, .mapr id => match H[id]? with
    | some (.map es) => some (.d (.int .i64 es.length))
    | _ => none
  | _, _ => none

def exV (ix : Nat) : T → Option T
  | .tup cs => cs[ix]?
  | _ => none

def optT (fr : Fr) : Option Operand → Option (Option T)
  | none => some none
  | some x => match opd fr x with
    | some t => some (some t)
    | none => none

def intP : Option T → Option (Option Int)
  | none => some none
  | some t => match intV (some t) with
    | some n => some (some n)
    | none => none

def sliceV (u : TypeDesc) (sz : Option Nat) (a : T) (lo hi mx : Option T) : Option T :=
  match a, intP lo, intP hi, intP mx with
  | .d (.string s), some lo, some hi, some none =>
    match u, cutB s.size lo hi none with
    | .string, some (l, h, _) => some (.d (.string (s.extract l h)))
    | _, _ => none
  | .sl nl n cs ow, some lo, some hi, some mx =>
    match u, cutB n lo hi mx with
    | .slice _, some (l, h, m) =>
      match sz with
      | some i => if cs.length = n * i then some (.sl nl (h - l) ((cs.drop (l * i)).take ((h - l) * i)) (cutO ow n l h m)) else none
      | none => none
    | _, _ => none
  | .loc id off n cap, some lo, some hi, some none =>
    match u, cutB n lo hi none with
    | .slice _, some (l, h, _) =>
      match sz with
      | some i => if n ≤ cap then (if l < h then some (.loc id (off + l * i) (h - l) (n - l)) else some (.sl false 0 [] .ro)) else none
      | none => none
    | _, _ => none
  | _, _, _, _ => none

/-- The element of a slice's type. -/
def elD (C : Cfg) (t : TypeId) : Option TypeDesc :=
  match tyD C t with
  | some (.slice e) => tyD C e
  | _ => none

def elI (C : Cfg) (t : TypeId) : Option TyI :=
  match tyD C t with
  | some (.slice e) => C.ty e
  | _ => none

def convV (P : Program) (o : Op) (same : Bool) (u1 u2 : Option TypeDesc) (e1 e2 : Option TypeDesc) (a : T) : Option T :=
  match a with
  | .sl nl n cs ow =>
    match u1, u2 with
    | some (.slice _), some .string => match e1 with
      | some (.int .u8) => if cs.length = n then (strOfD cs).map fun bs => .d (.string ⟨bs.toArray⟩) else none
      | _ => none
    | some (.slice _), some (.slice _) => match e2 with
      | some (.int .u8) => match ow with
        | .lit => if same = true ∧ nl = false then some (.sl nl n cs .lit) else none
        | _ => none
      | _ => none
    | _, _ => none
  | .d (.string s) =>
    match u1, u2 with
    | some .string, some (.slice _) => match e2 with
      | some (.int .u8) => some (.sl false s.size (bytesD s) .ro)
      | _ => none
    | _, _ => flatQ P o [a]
  | .d (.int k n) => match u1, u2 with
    | some _, some (.int k') => some (.d (.int k' (k'.wrap n)))
    | _, _ => flatQ P o [a]
  | _ => flatQ P o [a]

def lookV (kd : TypeDesc) (z : Option T) (H : List Box) (ok : Bool) (a key : T) : Option T :=
  match T.val key, mapOf H (some a) with
  | some key, some es =>
    if keyD kd then
      match findT kd key es with
      | some (some t) => some (if ok then .tup [t, .d (.bool true)] else t)
      | some none => match z with
        | some z => some (if ok then .tup [z, .d (.bool false)] else z)
        | none => none
      | none => none
    else none
  | _, _ => none

def mapPut (kd : TypeDesc) (H : List Box) (m key x : T) : Option (List Box) :=
  match T.val key, m with
  | some key, .mapr id =>
    if keyD kd ∧ flatV key then
      match H[id]? with
      | some (.map es) => (setT kd key x es).map fun es' => H.set id (.map es')
      | _ => none
    else none
  | _, _ => none

/-- Onto a slice: what comes of it, and of the tokens. -/
def appV (n b : Nat) (st : St) (s y : T) : Option (T × List Nat) :=
  match s with
  | .sl nl m cs o =>
    if cs.length = m * n then
      match tailOf st n y with
      | some (k, ys) =>
        if k = 0 then some (.sl nl m cs o, st.E)
        else if (m + k) * b ≤ roomB then
          match o with
          | .ro => none
          | .ex | .lit => some (.sl false (m + k) (cs ++ ys) (.tok st.E.length), st.E ++ [m + k])
          | .tok j => if st.E[j]? = some m ∧ nl = false ∧ (0 < m ∨ n = 1) then some (.sl false (m + k) (cs ++ ys) (.tok j), st.E.set j (m + k)) else none
        else none
      | none => none
    else none
  | _ => none

/-- A row just made becomes an array of its own. -/
def boxV {β : Type} (st : St) (t : T) (E : List Nat) (k : T → St → Option β) : Option β :=
  match t with
  | .sl false n cs (.tok j) => if j = st.E.length ∧ E = st.E ++ [n] then k (.loc st.H.length 0 n n) ⟨st.H ++ [.cells (cs.map D.toT)], st.E⟩ else none
  | _ => none

def minmaxV (isMax : Bool) (a b : T) : Option T := minmax isMax [a, b]

def cloV (as : List T) : T → Option (Nat × List T)
  | .clo g first cap => some (g, first ++ (as ++ cap))
  | _ => none

def aggT (cs : List T) : T := .agg cs

/-- The parts of a struct put in their places. -/
def fillS (pl : List (Nat × Nat)) (zs : List T) (ps : List (Nat × T)) : Option (List T) := fillT (pl[·]?) zs ps
/-- The parts of an array. -/
def fillA (n : Nat) (zs : List T) (ps : List (Nat × T)) : Option (List T) := fillT (fun k => some (k * n, n)) zs ps

def makeV (zs : List T) (n b : Nat) (l c : T) : Option (Nat × List T) :=
  match intV (some l), intV (some c) with
  | some n', some m => if n' = m ∧ 0 ≤ n' ∧ n'.toNat * b ≤ roomB ∧ n' ≤ 9223372036854775807 then (if zs.length = n ∧ zs.all T.one = true then some (n'.toNat, repeatL zs n'.toNat) else none) else none
  | _, _ => none

section
variable (C : Cfg) (call : CallF) (f : Nat) {β : Type}

/-- One operation, and what stands behind. -/
def obOp (o : Oper) (fr : Fr) (st : St) (k : T → St → Option β) : Option β :=
  match o.op with
  | .move x | .assign x => ob (opd fr x) fun t => k t st
  | .pick c a b => ob (opd fr c) fun v => gC v none (ob (opd fr a) fun t => k t st) (ob (opd fr b) fun t => k t st)
  | .build t ps => ob (C.ty t) fun i => ob (partsT fr ps.toList) fun ts =>
    match T.ofVal i.zero with
    | some (.agg zs) => match i.desc with
      | .struct fields => ob (placesOf C fields.toList) fun pl => ob (fillS pl zs ts) fun cs => k (.agg cs) st
      | .array _ e => ob (C.ty e) fun ei => ob (fillA ei.size zs ts) fun cs => k (.agg cs) st
      | _ => none
    | _ => none
  | .buildSlice t len ps => ob (elI C t) fun i => ob (partsT fr ps.toList) fun ts =>
    if len * i.size ≤ 16777216 then ob ((T.ofVal i.zero).map T.cells) fun zs => if zs.length = i.size then ob (fillA i.size (repeatL zs len) ts) fun cs => ob (T.toDs cs) fun ds => k (.sl false len ds .lit) st else none else none
  | .load t a => ob (C.ty t) fun i => ob (opd fr a) fun p => ob (loadV i.size (isAggD i.desc) st.H p) fun r => k r st
  | .nilCheck x => ob (opd fr x) fun p => ob (nilV p) fun r => k r st
  | .binOp op t x y _ => ob (opd fr x) fun a => ob (opd fr y) fun b => ob (tyD C t) fun u => ob (binV C.P o.op op t u a b) fun r => k r st
  | .unOp op _ x => ob (opd fr x) fun a => ob (notV C.P o.op op a) fun r => k r st
  | .convert s d x => ob (opd fr x) fun a => ob (convV C.P o.op (s == d) (tyD C s) (tyD C d) (elD C s) (elD C d) a) fun r => k r st
  | .makeInterface _ x => ob (opd fr x) fun a => ob (flatQ C.P o.op [a]) fun r => k r st
  | .makeFunc (.func g) first captured => ob (opds fr first.toList) fun a => ob (opds fr captured.toList) fun b => k (.clo g a b) st
  | .slice t x lo hi mx => ob (opd fr x) fun a => ob (optT fr lo) fun lo => ob (optT fr hi) fun hi => ob (optT fr mx) fun mx => ob (tyD C t) fun u => ob (sliceV u ((elI C t).map (·.size)) a lo hi mx) fun r => k r st
  | .fieldAddr s x n => match tyD C s with
    | some (.struct fields) => ob fields[n]? fun fd => ob (C.ty fd.type) fun i => if i.size = 0 then none else ob (opd fr x) fun p => ob (addrV fd.offset p) fun r => k r st
    | _ => none
  | .field s x n => match tyD C s with
    | some (.struct fields) => ob fields[n]? fun fd => ob (C.ty fd.type) fun i => ob (opd fr x) fun p => ob (fieldW fd.offset i.size (isAggD i.desc) p) fun r => k r st
    | _ => none
  | .indexAddr t x ix => match tyD C t with
    | some (.slice e) => ob (C.ty e) fun ti => ob (opd fr x) fun a => ob (opd fr ix) fun i => ob (ixV ti.size a i) fun r => k r st
    | some (.array n e) => ob (C.ty e) fun ti => ob (opd fr x) fun a => ob (opd fr ix) fun i => ob (ixA n ti.size a i) fun r => k r st
    | _ => none
  | .index t x ix => ob (opd fr x) fun a => ob (opd fr ix) fun i => ob (indexV C.P o.op t a i) fun r => k r st
  | .lookup t x ix ok => match tyD C t with
    | some (.map kt e) => ob (C.ty kt) fun ki => ob (C.ty e) fun ei => ob (opd fr x) fun a => ob (opd fr ix) fun key => ob (lookV ki.desc (T.ofVal ei.zero) st.H ok a key) fun r => k r st
    | _ => none
  | .extract t ix => ob (opd fr t) fun v => ob (exV ix v) fun r => k r st
  | .alloc e => ob (C.ty e) fun i => ob ((T.ofVal i.zero).map T.cells) fun zs => if zs.all T.one then k (.ptr st.H.length 0) ⟨st.H ++ [.cells zs], st.E⟩ else none
  | .box _ x => ob (opd fr x) fun t => gt (t.cells.all T.one = true) (k (.ptr st.H.length 0) ⟨st.H ++ [.cells t.cells], st.E⟩)
  | .makeMap _ none => k (.mapr st.H.length) ⟨st.H ++ [.map []], st.E⟩
  | .makeSlice t l c => ob (elI C t) fun i => ob ((T.ofVal i.zero).map T.cells) fun zs => ob (opd fr l) fun l => ob (opd fr c) fun c => ob (makeV zs i.size i.bytes l c) fun r =>
    if flagOf C.ice f o then ob (T.toDs r.2) fun ds => k (.sl false r.1 ds .ro) st else k (.loc st.H.length 0 r.1 r.1) ⟨st.H ++ [.cells r.2], st.E⟩
  | .store t a x => ob (C.ty t) fun i => ob (opd fr a) fun p => ob (opd fr x) fun v => ob (storeV i.size st.H p v) fun H => k undefT ⟨H, st.E⟩
  | .mapUpdate t m key x => match tyD C t with
    | some (.map kt _) => ob (C.ty kt) fun ki => ob (opd fr key) fun key => ob (opd fr m) fun m => ob (opd fr x) fun v => ob (mapPut ki.desc st.H m key v) fun H => k undefT ⟨H, st.E⟩
    | _ => none
  | .call c =>
    match c.callee with
    | .value x => ob (opd fr x) fun v => ob (opds fr c.args.toList) fun as => ob (cloV as v) fun p => ob (call p.1 p.2 st) fun r =>
      if (match o.dst with | some s => C.thaw f s | none => false) then k ((thawT (C.pure p.1) st r.1 r.2).1.getD undefT) (thawT (C.pure p.1) st r.1 r.2).2 else k r.1 r.2
    | .builtin .len => match c.args.toList, c.argTypes.toList with
      | [x], [t] => ob (opd fr x) fun a => ob (tyD C t) fun u => ob (lenV u st.H a) fun r => k r st
      | _, _ => none
    | .builtin .max => match c.args.toList, c.argTypes.toList with
      | [x, y], [_, _] => ob (opd fr x) fun a => ob (opd fr y) fun b => ob (minmaxV true a b) fun r => k r st
      | _, _ => none
    | .builtin .min => match c.args.toList, c.argTypes.toList with
      | [x, y], [_, _] => ob (opd fr x) fun a => ob (opd fr y) fun b => ob (minmaxV false a b) fun r => k r st
      | _, _ => none
    | .builtin .append => match c.args.toList, c.argTypes.toList with
      | [x, y], [t, u] => ob (elI C t) fun i => ob (tyD C u) fun ud => if 0 < i.size ∧ 0 < i.bytes ∧ notIntD ud = true ∧ ((T.ofVal i.zero).map fun z => z.cells.length) = some i.size then
          ob (opd fr x) fun a => ob (opd fr y) fun b => ob (appV i.size i.bytes st a b) fun r => if flagOf C.thaw f o then boxV st r.1 r.2 k else k r.1 ⟨st.H, r.2⟩
        else none
      | _, _ => none
    | _ => ob (doOp C call f o fr st) fun r => k (r.1.getD undefT) r.2
  | _ => ob (doOp C call f o fr st) fun r => k (r.1.getD undefT) r.2

/-- A slot's value turned. -/
def setF : Fr → Nat → T → Fr
  | [], _, _ => []
  | (s, t) :: r, k, x => if s = k then (s, x) :: r else (s, t) :: setF r k x

def tt : T := .d (.bool true)
def ff : T := .d (.bool false)

def obOps (ops : Array Oper) (draw : Bool) : List Oper → Fr → St → (Fr → St → Option β) → Option β
  | [], fr, st, k => k fr st
  | o :: os, fr, st, k =>
    match o.guard with
    | none => obOp C call f o (if draw then keepF (o.looksAt ops) fr else fr) st fun t st' => obOps ops draw os (putF fr o.dst t) st' k
    | some (j, want) =>
      match (ops[j]?).bind (·.dst) with
      | none => obOps ops draw os (putF fr o.dst undefT) st k
      | some s => ob (lookF (if draw then keepF (o.looksAt ops) fr else fr) s) fun v =>
        gC v (obOps ops draw os (putF (setF fr s undefT) o.dst undefT) st k)
          (if want then obOp C call f o (if draw then keepF (o.looksAt ops) (setF fr s tt) else setF fr s tt) st fun t st' => obOps ops draw os (putF (setF fr s tt) o.dst t) st' k
            else obOps ops draw os (putF (setF fr s tt) o.dst undefT) st k)
          (if want then obOps ops draw os (putF (setF fr s ff) o.dst undefT) st k
            else obOp C call f o (if draw then keepF (o.looksAt ops) (setF fr s ff) else setF fr s ff) st fun t st' => obOps ops draw os (putF (setF fr s ff) o.dst t) st' k)
end
end Go.Tm
end
section
set_option linter.unusedVariables false
set_option linter.unusedSimpArgs false
namespace Go.Tm
open Go

theorem flat1_eq {C : Cfg} {o : Oper} {fr : Fr} {x : Operand} {a : T} (h : opd fr x = some a) : flat1 C o fr [x] = flatQ C.P o.op [a] := by
  unfold flat1 flatQ flatOp
  simp [opdV, h]
  cases T.val a <;> first | rfl | (simp; rfl)
theorem flat2_eq {C : Cfg} {o : Oper} {fr : Fr} {x y : Operand} {a b : T} (h : opd fr x = some a) (h' : opd fr y = some b) : flat1 C o fr [x, y] = flatQ C.P o.op [a, b] := by
  unfold flat1 flatQ flatOp
  simp [opdV, h, h']
  cases T.val a <;> cases T.val b <;> first | rfl | (simp; done) | (simp; rfl)
theorem flat1_none {C : Cfg} {o : Oper} {fr : Fr} {x : Operand} (h : opd fr x = none) : flat1 C o fr [x] = none := by
  unfold flat1; simp [opdV, h]

variable {C : Cfg} {call : CallF} {f : Nat} {β : Type}

/-- quiet operations -/
theorem obQ {o : Oper} {fr : Fr} {st : St} {k : T → St → Option β} {r : Option T} (h : quietT C o fr st.H = r) (hc : clsOf o = .quiet ∨ clsOf o = .reads) (hd : doOp C call f o fr st = opT C o fr st) :
    ob (doOp C call f o fr st) (fun r => k (r.1.getD undefT) r.2) = ob r fun t => k t st := by
  rw [hd]
  unfold opT
  rcases hc with hc | hc <;> rw [hc] <;> simp only [h] <;> cases r <;> rfl

theorem obOp_eq (o : Oper) (fr : Fr) (st : St) (k : T → St → Option β) : obOp C call f o fr st k = ob (doOp C call f o fr st) fun r => k (r.1.getD undefT) r.2 := by
  obtain ⟨dst, op, ty, pos, after, guard⟩ := o
  cases op
  case move x => exact (obQ (by rfl) (.inl rfl) rfl).symm
  case assign x => exact (obQ (by rfl) (.inl rfl) rfl).symm
  case pick c a b =>
    refine .trans ?_ (obQ (by rfl) (.inl rfl) rfl).symm
    simp only [obOp, quietT]
    cases opd fr c with
    | none => rfl
    | some v =>
      simp only [ob_some]
      cases v with
      | d v =>
        cases v with
        | bool b => cases b <;> rfl
        | _ => rfl
      | tup cs => cases cs <;> rfl
      | _ => rfl
  case build t ps =>
    refine .trans ?_ (obQ (by rfl) (.inl rfl) rfl).symm
    simp only [obOp, quietT, buildOp]
    cases C.ty t with
    | none => rfl
    | some i =>
      cases partsT fr ps.toList with
      | none => rfl
      | some ts =>
        simp only [ob_some]
        cases T.ofVal i.zero with
        | none => rfl
        | some z =>
          cases z with
          | agg zs =>
            simp only
            cases i.desc with
            | struct fields =>
              simp only
              cases placesOf C fields.toList with
              | none => rfl
              | some pl => simp only [ob_some, fillS]; cases fillT (fun x => pl[x]?) zs ts <;> rfl
            | array n e =>
              simp only
              cases C.ty e with
              | none => rfl
              | some ei => simp only [ob_some, fillA]; cases fillT (fun k => some (k * ei.size, ei.size)) zs ts <;> rfl
            | _ => rfl
          | _ => rfl
  case buildSlice t len ps =>
    refine .trans ?_ (obQ (by rfl) (.inl rfl) rfl).symm
    simp only [obOp, quietT, buildSliceOp, elI]
    cases htd : tyD C t with
    | none => rfl
    | some u =>
      cases u with
      | slice e =>
        simp only
        cases partsT fr ps.toList with
        | none => simp only; cases C.ty e <;> rfl
        | some ts =>
          simp only
          cases C.ty e with
          | none => rfl
          | some i =>
            simp only [ob_some]
            by_cases h1 : len * i.size ≤ 16777216
            · simp only [h1, if_true]
              cases Option.map T.cells (T.ofVal i.zero) with
              | none => rfl
              | some zs =>
                simp only [ob_some]
                by_cases h2 : zs.length = i.size
                · simp only [h2, if_true, fillA]
                  cases fillT (fun k => some (k * i.size, i.size)) (repeatL zs len) ts with
                  | none => rfl
                  | some cs => simp only [ob_some, Option.bind_some]; cases T.toDs cs <;> rfl
                · simp only [h2, if_false]; rfl
            · simp only [h1, if_false]; rfl
      | _ => rfl
  case load t a =>
    refine .trans ?_ (obQ (by rfl) (.inr rfl) rfl).symm
    simp only [obOp, quietT, loadOp]
    cases C.ty t with
    | none => rfl
    | some i =>
      cases opd fr a with
      | none => rfl
      | some p =>
        simp only [ob_some]
        cases p <;> rfl
  case nilCheck x =>
    refine .trans ?_ (obQ (by rfl) (.inl rfl) rfl).symm
    simp only [obOp, quietT]
    cases opd fr x with
    | none => rfl
    | some p => cases p <;> rfl
  case binOp op t x y yt =>
    refine .trans ?_ (obQ (by rfl) (.inl rfl) rfl).symm
    simp only [obOp, quietT, binOpT]
    cases hx : opd fr x with
    | none => rfl
    | some a =>
      cases hy : opd fr y with
      | none => rfl
      | some b =>
        cases tyD C t with
        | none => rfl
        | some u =>
          simp only [ob_some, binV]
          congr 1
          rw [flat2_eq hx hy]
          rfl
  case unOp op t x =>
    refine .trans ?_ (obQ (by rfl) (.inl rfl) rfl).symm
    simp only [obOp, quietT, unOpT]
    cases hx : opd fr x with
    | none => rw [flat1_none hx]; cases op <;> rfl
    | some a =>
      simp only [ob_some, notV]
      congr 1
      rw [flat1_eq hx]
      cases op with
      | not => cases a with
        | d v => cases v <;> rfl
        | _ => rfl
      | _ => cases a <;> rfl
  case convert s d x =>
    refine .trans ?_ (obQ (by rfl) (.inl rfl) rfl).symm
    simp only [obOp, quietT, convOp, elD]
    cases hx : opd fr x with
    | none => simp only; rw [flat1_none hx]; rfl
    | some a =>
      simp only [ob_some]
      rw [flat1_eq hx]
      congr 1
      unfold convV
      cases a with
      | sl nl n cs ow =>
        simp only
        cases tyD C s with
        | none => rfl
        | some u1 => cases hd : tyD C d with
          | none => cases u1 <;> rfl
          | some u2 =>
            cases u1 with
            | slice e1 => cases u2 with
              | string => rfl
              | slice e2 =>
                simp only
                cases tyD C e2 with
                | none => rfl
                | some ud => cases ud with
                  | int kk => cases kk with
                    | u8 => cases ow with
                      | lit => simp only [beq_iff_eq]
                      | _ => rfl
                    | _ => rfl
                  | _ => rfl
              | _ => rfl
            | _ => cases u2 <;> rfl
      | d v =>
        cases v with
        | string x =>
          simp only
          cases tyD C s with
          | none => rfl
          | some u1 => cases hd : tyD C d with
            | none => cases u1 <;> rfl
            | some u2 => cases u1 <;> cases u2 <;> rfl
        | int kk n =>
          simp only
          cases tyD C s with
          | none => rfl
          | some u1 => cases hd : tyD C d with
            | none => rfl
            | some u2 => cases u2 <;> rfl
        | _ => rfl
      | _ => rfl
  case makeInterface t x =>
    refine .trans ?_ (obQ (by rfl) (.inl rfl) rfl).symm
    simp only [obOp, quietT]
    cases hx : opd fr x with
    | none => rw [flat1_none hx]; rfl
    | some a => simp only [ob_some]; rw [flat1_eq hx]
  case makeFunc g first captured =>
    cases g with
    | func g =>
      refine .trans ?_ (obQ (by rfl) (.inl rfl) rfl).symm
      simp only [obOp, quietT]
      cases opds fr first.toList with
      | none => rfl
      | some a => cases opds fr captured.toList <;> rfl
    | _ => rfl
  case slice t x lo hi mx =>
    refine .trans ?_ (obQ (by rfl) (.inl rfl) rfl).symm
    have hO : ∀ y, intO fr y = ob (optT fr y) intP := by
      intro y
      cases y with
      | none => rfl
      | some y => simp only [intO, optT]; cases opd fr y <;> rfl
    simp only [obOp, quietT, sliceOp, hO, elI]
    cases opd fr x with
    | none => rfl
    | some a =>
      simp only [ob_some]
      cases optT fr lo with
      | none => cases a <;> first | rfl | (rename_i v; cases v <;> rfl)
      | some lo =>
        cases optT fr hi with
        | none => simp only [ob_some, ob_none]; cases a <;> first | rfl | (rename_i v; cases v <;> first | rfl | (cases intP lo <;> rfl)) | (cases intP lo <;> rfl)
        | some hi =>
          cases optT fr mx with
          | none => simp only [ob_some, ob_none]; cases a <;> first | rfl | (rename_i v; cases v <;> first | rfl | (cases intP lo <;> cases intP hi <;> rfl)) | (cases intP lo <;> cases intP hi <;> rfl)
          | some mx =>
            simp only [ob_some]
            cases htd : tyD C t with
            | none =>
              cases a with
              | d v => cases v <;> first | rfl | (simp only [ob_none]; cases intP lo <;> cases intP hi <;> cases intP mx <;> first | rfl | (rename_i q; cases q <;> rfl))
              | sl nl n cs ow => simp only [ob_none]; cases intP lo <;> cases intP hi <;> cases intP mx <;> rfl
              | loc id off n cap => simp only [ob_none]; cases intP lo <;> cases intP hi <;> cases intP mx <;> first | rfl | (rename_i q; cases q <;> rfl)
              | _ => rfl
            | some u =>
              simp only [ob_some]
              congr 1
              unfold sliceV
              cases a with
              | d v =>
                cases v with
                | string s => cases intP lo <;> cases intP hi <;> cases intP mx <;> first | rfl | (rename_i q; cases q <;> first | rfl | (simp only; cases u <;> first | rfl | (cases cutB s.size _ _ _ <;> rfl)))
                | _ => rfl
              | sl nl n cs ow =>
                cases intP lo <;> cases intP hi <;> cases intP mx <;> first | rfl | skip
                simp only
                cases u with
                | slice e =>
                  simp only
                  cases cutB n _ _ _ with
                  | none => rfl
                  | some q => obtain ⟨l, h, m⟩ := q; simp only; cases C.ty e <;> rfl
                | _ => rfl
              | loc id off n cap =>
                cases intP lo <;> cases intP hi <;> cases intP mx <;> first | rfl | skip
                rename_i q
                cases q with
                | none =>
                  simp only
                  cases u with
                  | slice e =>
                    simp only
                    cases cutB n _ _ _ with
                    | none => rfl
                    | some q => obtain ⟨l, h, m⟩ := q; simp only; cases C.ty e <;> rfl
                  | _ => rfl
                | some m => rfl
              | _ => rfl
  case fieldAddr s x n =>
    refine .trans ?_ (obQ (by rfl) (.inl rfl) rfl).symm
    simp only [obOp, quietT, fieldA]
    cases tyD C s with
    | none => rfl
    | some u =>
      cases u with
      | struct fields =>
        simp only
        cases fields[n]? with
        | none => rfl
        | some fd =>
          simp only [ob_some]
          cases C.ty fd.type with
          | none => rfl
          | some i =>
            simp only [ob_some]
            by_cases h : i.size = 0
            · simp only [h, if_true]; rfl
            · simp only [h, if_false]
              cases opd fr x with
              | none => rfl
              | some p => cases p <;> rfl
      | _ => rfl
  case field s x n =>
    refine .trans ?_ (obQ (by rfl) (.inl rfl) rfl).symm
    simp only [obOp, quietT, fieldV]
    cases tyD C s with
    | none => rfl
    | some u =>
      cases u with
      | struct fields =>
        simp only
        cases hx : opd fr x with
        | none => cases fields[n]? with
          | none => rfl
          | some fd => simp only [ob_some]; cases C.ty fd.type <;> rfl
        | some p =>
          cases p with
          | agg cs =>
            simp only
            cases fields[n]? with
            | none => rfl
            | some fd => simp only [ob_some]; cases C.ty fd.type <;> rfl
          | _ => cases fields[n]? with
            | none => rfl
            | some fd => simp only [ob_some]; cases C.ty fd.type <;> rfl
      | _ => rfl
  case indexAddr t x ix =>
    refine .trans ?_ (obQ (by rfl) (.inl rfl) rfl).symm
    simp only [obOp, quietT, indexOp]
    cases tyD C t with
    | none => rfl
    | some u =>
      cases u with
      | slice e =>
        simp only
        cases opd fr x with
        | none => simp only [ob_none]; cases C.ty e <;> rfl
        | some a =>
          cases opd fr ix with
          | none => simp only [ob_some, ob_none]; cases C.ty e <;> cases a <;> first | rfl | (rename_i b _ _ _; cases b <;> rfl)
          | some i =>
            simp only [ob_some, ixV]
            cases hi : intV (some i) with
            | none => cases C.ty e <;> cases a <;> first | rfl | (rename_i b _ _ _; cases b <;> rfl)
            | some n =>
              cases a with
              | sl nl m cs o => cases nl <;> simp only <;> cases C.ty e <;> rfl
              | loc id off m c => simp only; cases C.ty e <;> rfl
              | _ => simp only; cases C.ty e <;> rfl
      | array m e =>
        simp only
        cases opd fr x with
        | none => simp only [ob_none]; cases C.ty e <;> rfl
        | some a =>
          cases opd fr ix with
          | none => simp only [ob_some, ob_none]; cases C.ty e <;> cases a <;> first | rfl | (rename_i b _ _ _; cases b <;> rfl)
          | some i =>
            simp only [ob_some, ixA]
            cases hi : intV (some i) with
            | none => cases C.ty e <;> cases a <;> rfl
            | some n =>
              cases a with
              | ptr id off => simp only; cases C.ty e <;> rfl
              | _ => simp only; cases C.ty e <;> rfl
      | _ => rfl
  case index t x ix =>
    refine .trans ?_ (obQ (by rfl) (.inl rfl) rfl).symm
    simp only [obOp, quietT, indexT]
    cases hx : opd fr x with
    | none => rfl
    | some a =>
      cases hy : opd fr ix with
      | none => rfl
      | some b =>
        simp only [ob_some, indexV]
        congr 1
        rw [flat2_eq hx hy]
        rfl
  case lookup t x ix ok =>
    refine .trans ?_ (obQ (by rfl) (.inr rfl) rfl).symm
    simp only [obOp, quietT, lookupOp, opdV]
    cases tyD C t with
    | none => rfl
    | some u =>
      cases u with
      | map kt e =>
        simp only
        cases C.ty kt with
        | none => rfl
        | some ki =>
          cases C.ty e with
          | none => rfl
          | some ei =>
            simp only [ob_some]
            cases opd fr x with
            | none => cases opd fr ix with
              | none => rfl
              | some key => simp only [Option.bind_some]; cases T.val key <;> rfl
            | some a =>
              cases opd fr ix with
              | none => rfl
              | some key =>
                simp only [ob_some, Option.bind_some, lookV]
                cases T.val key with
                | none => rfl
                | some kv =>
                  cases mapOf st.H (some a) with
                  | none => rfl
                  | some es =>
                    simp only
                    split
                    · cases findT ki.desc kv es with
                      | none => rfl
                      | some r => cases r with
                        | none => simp only; cases T.ofVal ei.zero <;> rfl
                        | some t => rfl
                    · rfl
      | _ => rfl
  case extract t ix =>
    refine .trans ?_ (obQ (by rfl) (.inl rfl) rfl).symm
    simp only [obOp, quietT]
    cases opd fr t with
    | none => rfl
    | some p => cases p <;> rfl
  case alloc e =>
    simp only [obOp, doOp, opT, clsOf, allocT]
    cases C.ty e with
    | none => rfl
    | some i =>
      simp only [ob_some]
      cases Option.map T.cells (T.ofVal i.zero) with
      | none => rfl
      | some zs =>
        simp only [ob_some]
        split <;> rfl
  case box t x =>
    simp only [obOp, doOp, opT, clsOf, allocT]
    cases opd fr x with
    | none => rfl
    | some i =>
      simp only [ob_some, gt]
      split <;> rfl
  case makeMap t n => cases n <;> rfl
  case makeSlice t l c =>
    simp only [obOp, doOp, opT, clsOf, iceT, allocT, elI]
    cases tyD C t with
    | none => cases flagOf C.ice f _ <;> rfl
    | some u =>
      cases u with
      | slice e =>
        simp only
        cases hl : opd fr l with
        | none => cases flagOf C.ice f _ <;> cases C.ty e <;> first | rfl | (simp only [ob_some]; cases Option.map T.cells (T.ofVal _) <;> rfl)
        | some lv =>
          cases hc : opd fr c with
          | none => cases intV (some lv) <;> cases flagOf C.ice f _ <;> cases C.ty e <;> first | rfl | (simp only [ob_some]; cases Option.map T.cells (T.ofVal _) <;> rfl)
          | some cv =>
            cases hn : intV (some lv) with
            | none =>
              have hm : ∀ zs a b, makeV zs a b lv cv = none := fun zs a b => by simp [makeV, hn]
              simp only [ob_some, hm]
              cases flagOf C.ice f _ <;> cases C.ty e <;> first | rfl | (simp only [ob_some]; cases Option.map T.cells (T.ofVal _) <;> rfl)
            | some n =>
              cases hc2 : intV (some cv) with
              | none =>
                have hm : ∀ zs a b, makeV zs a b lv cv = none := fun zs a b => by simp [makeV, hn, hc2]
                simp only [ob_some, hm]
                cases flagOf C.ice f _ <;> cases C.ty e <;> first | rfl | (simp only [ob_some]; cases Option.map T.cells (T.ofVal _) <;> rfl)
              | some m =>
                have hm : ∀ zs a b, makeV zs a b lv cv = if n = m ∧ 0 ≤ n ∧ n.toNat * b ≤ roomB ∧ n ≤ 9223372036854775807 then (if zs.length = a ∧ zs.all T.one = true then some (n.toNat, repeatL zs n.toNat) else none) else none := fun zs a b => by simp [makeV, hn, hc2]
                simp only [ob_some, hm]
                cases C.ty e with
                | none => cases flagOf C.ice f _ <;> rfl
                | some i =>
                  simp only [ob_some]
                  cases Option.map T.cells (T.ofVal i.zero) with
                  | none => simp only [ob_none, ite_self]; cases flagOf C.ice f _ <;> rfl
                  | some zs =>
                    simp only [ob_some]
                    by_cases h1 : n = m ∧ 0 ≤ n ∧ n.toNat * i.bytes ≤ roomB ∧ n ≤ 9223372036854775807
                    · by_cases h2 : zs.length = i.size ∧ zs.all T.one = true
                      · simp only [if_pos h1, if_pos h2]
                        cases flagOf C.ice f _ with
                        | true => simp only [if_true, ob_some, and_self]; cases T.toDs (repeatL zs n.toNat) <;> rfl
                        | false => rfl
                      · simp only [if_pos h1, if_neg h2]
                        cases flagOf C.ice f _ <;> rfl
                    · simp only [if_neg h1]
                      cases flagOf C.ice f _ <;> rfl
      | _ => cases flagOf C.ice f _ <;> rfl
  case store t a x =>
    simp only [obOp, doOp, opT, clsOf, writeT, storeOp]
    cases C.ty t with
    | none => rfl
    | some i =>
      cases opd fr a with
      | none => rfl
      | some p =>
        cases opd fr x with
        | none => cases p <;> rfl
        | some v =>
          simp only [ob_some, storeV]
          cases p with
          | ptr id off =>
            simp only
            cases st.H[id]? with
            | none => rfl
            | some b =>
              cases b with
              | cells cs =>
                simp only
                split
                · cases putAt cs off v.cells <;> rfl
                · rfl
              | _ => rfl
          | _ => rfl
  case mapUpdate t m key x =>
    simp only [obOp, doOp, opT, clsOf, writeT, mapUpdOp, opdV]
    cases tyD C t with
    | none => rfl
    | some u =>
      cases u with
      | map kt e =>
        simp only
        cases C.ty kt with
        | none => rfl
        | some ki =>
          cases opd fr key with
          | none => rfl
          | some kv =>
            cases opd fr m with
            | none => simp only [ob_some, ob_none, Option.bind_some]; cases T.val kv <;> rfl
            | some mv =>
              cases opd fr x with
              | none => simp only [ob_some, ob_none, Option.bind_some]; cases T.val kv <;> cases mv <;> rfl
              | some v =>
                simp only [ob_some, Option.bind_some, mapPut]
                cases T.val kv with
                | none => rfl
                | some kv =>
                  cases mv with
                  | mapr id =>
                    simp only
                    split
                    · cases st.H[id]? with
                      | none => rfl
                      | some b =>
                        cases b with
                        | map es => simp only; cases setT ki.desc kv v es <;> rfl
                        | _ => rfl
                    · rfl
                  | _ => rfl
      | _ => rfl
  case call c =>
    obtain ⟨callee, args, argTypes⟩ := c
    cases callee with
    | value x =>
      simp only [obOp, doOp, calleeT]
      cases opd fr x with
      | none => rfl
      | some v =>
        cases opds fr args.toList with
        | none => cases v <;> rfl
        | some as =>
          simp only [ob_some, cloV]
          cases v with
          | clo g first cap =>
            simp only [ob_some, List.append_assoc]
            cases call g (first ++ (as ++ cap)) st with
            | none => rfl
            | some r =>
              obtain ⟨t, st'⟩ := r
              simp only [ob_some]
              cases dst with
              | none => simp only [Bool.and_false]; rfl
              | some s =>
                simp only
                by_cases ht : C.thaw f s = true
                · simp only [ht, if_true, Bool.and_true]
                · simp only [ht, Bool.and_false]; rfl
          | _ => rfl
    | builtin b =>
      cases b with
      | len =>
        refine .trans ?_ (obQ (by rfl) (.inr rfl) rfl).symm
        simp only [obOp, quietT]
        cases args.toList with
        | nil => rfl
        | cons x xs => cases xs with
          | cons y ys => rfl
          | nil => cases argTypes.toList with
            | nil => rfl
            | cons t ts => cases ts with
              | cons _ _ => rfl
              | nil =>
                simp only [lenOp]
                cases opd fr x with
                | none => simp only [ob_none]; cases tyD C t with
                  | none => rfl
                  | some u => cases u <;> rfl
                | some a =>
                  simp only [ob_some]
                  cases tyD C t with
                  | none => rfl
                  | some u =>
                    simp only [ob_some]
                    congr 1
                    unfold lenV
                    cases u <;> cases a <;> first | rfl | (rename_i v; cases v <;> rfl)
      | max =>
        refine .trans ?_ (obQ (by rfl) (.inl rfl) rfl).symm
        simp only [obOp, quietT]
        cases args.toList with
        | nil => rfl
        | cons x xs => cases xs with
          | nil => rfl
          | cons y ys => cases ys with
            | cons _ _ => rfl
            | nil => cases argTypes.toList with
              | nil => rfl
              | cons t ts => cases ts with
                | nil => rfl
                | cons u us => cases us with
                  | cons _ _ => rfl
                  | nil =>
                    simp only [opds]
                    cases opd fr x with
                    | none => rfl
                    | some a => cases opd fr y <;> rfl
      | min =>
        refine .trans ?_ (obQ (by rfl) (.inl rfl) rfl).symm
        simp only [obOp, quietT]
        cases args.toList with
        | nil => rfl
        | cons x xs => cases xs with
          | nil => rfl
          | cons y ys => cases ys with
            | cons _ _ => rfl
            | nil => cases argTypes.toList with
              | nil => rfl
              | cons t ts => cases ts with
                | nil => rfl
                | cons u us => cases us with
                  | cons _ _ => rfl
                  | nil =>
                    simp only [opds]
                    cases opd fr x with
                    | none => rfl
                    | some a => cases opd fr y <;> rfl
      | append =>
        have base : ∀ (k : T → St → Option β), (match args.toList, argTypes.toList with
            | [x, y], [t, u] => ob (elI C t) fun i => ob (tyD C u) fun ud => if 0 < i.size ∧ 0 < i.bytes ∧ notIntD ud = true ∧ ((T.ofVal i.zero).map fun z => z.cells.length) = some i.size then
                ob (opd fr x) fun a => ob (opd fr y) fun b => ob (appV i.size i.bytes st a b) fun r => k r.1 ⟨st.H, r.2⟩
              else none
            | _, _ => none) = ob (opT C ⟨dst, .call ⟨.builtin .append, args, argTypes⟩, ty, pos, after, guard⟩ fr st) fun r => k (r.1.getD undefT) r.2 := by
          intro k
          simp only [opT, clsOf]
          cases args.toList with
          | nil => rfl
          | cons x xs => cases xs with
            | nil => rfl
            | cons y ys => cases ys with
              | cons _ _ => rfl
              | nil => cases argTypes.toList with
                | nil => rfl
                | cons t ts => cases ts with
                  | nil => rfl
                  | cons u us => cases us with
                    | cons _ _ => rfl
                    | nil =>
                      simp only [appendOp, elI]
                      cases tyD C t with
                      | none => rfl
                      | some ut =>
                        cases ut with
                        | slice e =>
                          simp only
                          have hn : ∀ (p : Prop) [Decidable p] (k : T × List Nat → Option β), (if p then ob (opd fr x) fun a => ob (opd fr y) fun b => ob (none : Option (T × List Nat)) k else none) = none := by
                            intro p _ k
                            cases opd fr x <;> cases opd fr y <;> simp [ob]
                          cases opd fr x with
                          | none =>
                            simp only [ob_none, ite_self]
                            cases C.ty e with
                            | none => rfl
                            | some i => cases tyD C u <;> rfl
                          | some a =>
                            cases opd fr y with
                            | none =>
                              simp only [ob_some, ob_none, ite_self]
                              cases a <;> (cases C.ty e with
                                | none => rfl
                                | some i => cases tyD C u <;> rfl)
                            | some b =>
                              cases a with
                              | sl nl n cs o =>
                                simp only
                                cases C.ty e with
                                | none => rfl
                                | some i =>
                                  cases tyD C u with
                                  | none => rfl
                                  | some ud =>
                                    simp only [ob_some, appV]
                                    by_cases h1 : cs.length = n * i.size
                                    · by_cases h2 : 0 < i.size ∧ 0 < i.bytes ∧ notIntD ud = true ∧ ((T.ofVal i.zero).map fun z => z.cells.length) = some i.size
                                      · rw [if_pos h2, if_pos h1, if_pos ⟨h1, h2⟩]
                                        cases tailOf st i.size b with
                                        | none => rfl
                                        | some q =>
                                          obtain ⟨m, ys⟩ := q
                                          simp only
                                          split
                                          · rfl
                                          · split
                                            · cases o with
                                              | tok j => simp only; split <;> rfl
                                              | _ => rfl
                                            · rfl
                                      · rw [if_neg h2, if_neg (fun h => h2 h.2)]; rfl
                                    · simp only [h1, false_and, if_false, ob_none, ite_self]
                              | _ =>
                                simp only [ob_some, appV, ob_none, ite_self]
                                cases C.ty e with
                                | none => rfl
                                | some i => cases tyD C u <;> rfl
                        | _ => rfl
        by_cases hfl : flagOf C.thaw f ⟨dst, .call ⟨.builtin .append, args, argTypes⟩, ty, pos, after, guard⟩ = true
        · have hb := base (fun t s => boxV st t s.E k)
          simp only [obOp, hfl, if_true]
          refine hb.trans ?_
          simp only [doOp, boxT, isApp, hfl, Bool.and_self, if_true]
          generalize opT C ⟨dst, .call ⟨.builtin .append, args, argTypes⟩, ty, pos, after, guard⟩ fr st = q
          cases q with
          | none => rfl
          | some r =>
            obtain ⟨t, s⟩ := r
            cases t with
            | none => rfl
            | some t =>
              cases t with
              | sl nl n cs o =>
                cases nl with
                | true => rfl
                | false =>
                  cases o with
                  | tok j =>
                    simp only [ob_some, Option.getD_some, boxV]
                    split <;> rfl
                  | _ => rfl
              | _ => rfl
        · simp only [obOp, hfl, if_false, Bool.false_eq_true]
          refine (base k).trans ?_
          simp only [doOp, boxT, isApp, hfl, Bool.true_and, if_false, Bool.false_eq_true]
      | _ => rfl
    | _ => rfl
  all_goals rfl

theorem setF_eq : ∀ {fr : Fr} {s : Nat} {t : T}, lookF fr s = some t → setF fr s t = fr
  | [], _, _, _ => rfl
  | (s', t') :: r, s, t, h => by
    simp only [lookF] at h
    simp only [setF]
    split at h
    · rename_i e; simp at h; rw [if_pos e, h]
    · rename_i e; rw [if_neg e, setF_eq h]

theorem obOps_run {ops : Array Oper} : ∀ (os : List Oper) (fr : Fr) (st : St) (k : Fr → St → Option β),
    obOps C call f ops false os fr st k = ob (runOps C call f ops os fr st) fun r => k r.1 r.2
  | [], fr, st, k => rfl
  | o :: os, fr, st, k => by
    have go : ∀ (fr : Fr), obOp C call f o fr st (fun t st' => obOps C call f ops false os (putF fr o.dst t) st' k) =
        ob (match doOp C call f o fr st with | some (r, st') => runOps C call f ops os (putF fr o.dst (r.getD undefT)) st' | none => none) fun r => k r.1 r.2 := by
      intro fr
      rw [obOp_eq]
      cases doOp C call f o fr st with
      | none => rfl
      | some r => simp only [ob_some, obOps_run os]
    unfold obOps runOps wantedT
    cases hg : o.guard with
    | none => simp only [Bool.false_eq_true, if_false]; exact (go fr).trans rfl
    | some g =>
      obtain ⟨j, want⟩ := g
      simp only [Bool.false_eq_true, if_false]
      cases (ops[j]?).bind (·.dst) with
      | none => simp only [obOps_run os]
      | some s =>
        simp only
        cases hl : lookF fr s with
        | none => rfl
        | some v =>
          simp only [ob_some]
          cases v with
          | d v =>
            cases v with
            | bool b =>
              have e1 := setF_eq hl
              cases b <;> cases want <;> simp only [gC, tt, ff, e1, if_true, if_false, Bool.false_eq_true]
              · exact (go fr).trans rfl
              · exact (obOps_run os _ _ _).trans rfl
              · exact (obOps_run os _ _ _).trans rfl
              · exact (go fr).trans rfl
            | _ => rfl
          | tup cs => cases cs with
            | nil =>
              have e1 := setF_eq hl
              simp only [gC, undefT, e1, obOps_run os]
            | cons _ _ => rfl
          | _ => rfl

theorem quietT_quiet {o : Oper} {fr : Fr} {H : List Box} (h : clsOf o = .quiet) : quietT C o fr H = quietT C o fr [] := by
  obtain ⟨dst, op, ty, pos, after, guard⟩ := o
  cases op with
  | load t a => simp [clsOf] at h
  | lookup t x ix ok => simp [clsOf] at h
  | call c =>
    obtain ⟨callee, args, argTypes⟩ := c
    cases callee with
    | builtin b => cases b <;> first | rfl | (simp [clsOf] at h; done) | (unfold quietT; rfl) | (unfold quietT; simp only; split <;> first | rfl | simp_all)
    | _ => rfl
  | makeFunc g a b => cases g <;> rfl
  | _ => rfl

theorem stepAny_doOp {ops : Array Oper} {o : Oper} {fr : Fr} {st : St} (h : wantedT ops (keepF (o.looksAt ops) fr) o = some true) :
    stepAny C call f ops o fr st = (doOp C call f o (keepF (o.looksAt ops) fr) st).map fun r => (r.1.getD undefT, r.2) := by
  unfold stepAny
  rw [h]
  simp only
  have notcall : clsOf o = .quiet ∨ clsOf o = .reads → doOp C call f o (keepF (o.looksAt ops) fr) st = opT C o (keepF (o.looksAt ops) fr) st := by
    obtain ⟨dst, op, ty, pos, after, guard⟩ := o
    intro hc
    cases op with
    | makeSlice t l c => rcases hc with hc | hc <;> simp [clsOf] at hc
    | call c =>
      obtain ⟨callee, args, argTypes⟩ := c
      cases callee with
      | value x => rcases hc with hc | hc <;> simp [clsOf] at hc
      | _ => first | rfl | (rename_i b; cases b <;> first | rfl | (exact absurd hc (by simp [clsOf])))
    | _ => rfl
  cases hc : clsOf o with
  | quiet =>
    simp only
    rw [notcall (.inl hc)]
    unfold opT
    rw [hc]
    simp only
    rw [quietT_quiet hc (H := st.H)]
    cases quietT C o (keepF (o.looksAt ops) fr) [] <;> rfl
  | reads =>
    simp only
    rw [notcall (.inr hc)]
    unfold opT
    rw [hc]
    simp only
    cases quietT C o (keepF (o.looksAt ops) fr) st.H <;> rfl
  | _ => rfl

theorem obOps_any {ops : Array Oper} : ∀ (os : List Oper) (fr : Fr) (st : St) (k : Fr → St → Option β),
    obOps C call f ops true os fr st k = ob (runAny C call f ops os fr st) fun r => k r.1 r.2
  | [], fr, st, k => rfl
  | o :: os, fr, st, k => by
    have go : ∀ (fr : Fr), wantedT ops (keepF (o.looksAt ops) fr) o = some true → obOp C call f o (keepF (o.looksAt ops) fr) st (fun t st' => obOps C call f ops true os (putF fr o.dst t) st' k) =
        ob (match stepAny C call f ops o fr st with | some (r, st') => runAny C call f ops os (putF fr o.dst r) st' | none => none) fun r => k r.1 r.2 := by
      intro fr hw
      rw [obOp_eq, stepAny_doOp hw]
      cases doOp C call f o (keepF (o.looksAt ops) fr) st with
      | none => rfl
      | some r => simp only [ob_some, obOps_any os, Option.map_some]
    have skip : ∀ (fr : Fr), wantedT ops (keepF (o.looksAt ops) fr) o = some false → obOps C call f ops true os (putF fr o.dst undefT) st k =
        ob (match stepAny C call f ops o fr st with | some (r, st') => runAny C call f ops os (putF fr o.dst r) st' | none => none) fun r => k r.1 r.2 := by
      intro fr hw
      unfold stepAny
      rw [hw]
      simp only [obOps_any os]
    have bad : ∀ (fr : Fr), wantedT ops (keepF (o.looksAt ops) fr) o = none → 
        ob (match stepAny C call f ops o fr st with | some (r, st') => runAny C call f ops os (putF fr o.dst r) st' | none => none) (fun r => k r.1 r.2) = (none : Option β) := by
      intro fr hw
      unfold stepAny
      rw [hw]
      rfl
    unfold obOps runAny
    cases hg : o.guard with
    | none =>
      simp only [if_true]
      exact go fr (by unfold wantedT; rw [hg])
    | some g =>
      obtain ⟨j, want⟩ := g
      simp only [if_true]
      cases hj : (ops[j]?).bind (·.dst) with
      | none =>
        simp only
        exact skip fr (by unfold wantedT; rw [hg]; simp only [hj])
      | some s =>
        simp only
        have hw : wantedT ops (keepF (o.looksAt ops) fr) o = match lookF (keepF (o.looksAt ops) fr) s with | some (.d (.bool b)) => some (b == want) | some (.tup []) => some false | _ => none := by
          unfold wantedT; rw [hg]; simp only [hj]; rfl
        cases hl : lookF (keepF (o.looksAt ops) fr) s with
        | none => exact (bad fr (by rw [hw, hl])).symm
        | some v =>
          simp only [ob_some]
          rw [hl] at hw
          cases v with
          | d v =>
            cases v with
            | bool b =>
              have e1 := setF_eq (lookF_keep hl)
              cases b <;> cases want <;> simp only [gC, tt, ff, e1, if_true, if_false, Bool.false_eq_true]
              · exact go fr hw
              · exact skip fr hw
              · exact skip fr hw
              · exact go fr hw
            | _ => exact (bad fr hw).symm
          | tup cs => cases cs with
            | nil =>
              have e1 := setF_eq (lookF_keep hl)
              simp only [gC, undefT, e1]; exact skip fr hw
            | cons _ _ => exact (bad fr hw).symm
          | _ => exact (bad fr hw).symm
end Go.Tm
end
section
set_option linter.unusedVariables false
set_option linter.unusedSimpArgs false
namespace Go.Tm
open Go

def kid : Code → Bool → Code
  | .seq a b, i => bif i then b else a
  | .cond _ a b, i => bif i then b else a
  | .block _ a, _ => a
  | .loop a, _ => a
  | c, _ => c

def codeB (fn : Func) : Code :=
  match fn.body with
  | some c => c
  | none => .skip

def opsOf : Code → Array Oper
  | .region _ ops _ => ops
  | _ => #[]

/-- An operation by its place. -/
def opAt (c : Code) (i : Nat) : Op :=
  match (opsOf c)[i]? with
  | some o => o.op
  | none => .move (.tmp 0)

def needK {β : Type} : List Nat → Fr → (Fr → Option β) → Option β
  | [], _, k => k []
  | s :: ks, fr, k => ob (lookF fr s) fun t => needK ks fr fun r => k ((s, t) :: r)

theorem needK_eq {β : Type} : ∀ (ks : List Nat) (fr : Fr) (k : Fr → Option β), ob (needF ks fr) k = needK ks fr k
  | [], fr, k => rfl
  | s :: ks, fr, k => by
    simp only [needF, needK]
    cases lookF fr s with
    | none => rfl
    | some t =>
      simp only [ob_some]
      rw [← needK_eq ks fr]
      cases needF ks fr <;> rfl

abbrev Res := Option (Ex × Fr × St)

theorem runI_reg {C : Cfg} {f id : Nat} {c : Code} {ops : Array Oper} {draw : Bool} {fr : Fr} {st : St} (h : c = .region id ops draw) :
    runI C f c fr st = needK (C.live f id) fr fun fr => obOps C (callI C) f ops draw ops.toList fr st fun fr st => needK (C.keep f id) fr fun fr => (some (.normal, (frzO (C.frzOf f id) fr st).1, (frzO (C.frzOf f id) fr st).2) : Res) := by
  subst h
  cases draw with
  | false =>
    rw [runI_region, ← needK_eq]
    cases needF (C.live f id) fr with
    | none => rfl
    | some fr =>
      simp only [ob_some, obOps_run]
      cases runOps C (callI C) f ops ops.toList fr st with
      | none => rfl
      | some r => simp only [ob_some, keepI, ← needK_eq]; cases needF (C.keep f id) r.1 <;> rfl
  | true =>
    rw [runI_draw, ← needK_eq]
    cases needF (C.live f id) fr with
    | none => rfl
    | some fr =>
      simp only [ob_some, obOps_any]
      cases runAny C (callI C) f ops ops.toList fr st with
      | none => rfl
      | some r => simp only [ob_some, keepI, ← needK_eq]; cases needF (C.keep f id) r.1 <;> rfl

/-- Behind an ordinary end: more code. -/
noncomputable def thenR (C : Cfg) (f : Nat) (c : Code) : Res → Res
  | some (.normal, fr, st) => runI C f c fr st
  | r => r
/-- Behind a round's ordinary end: the loop again. -/
noncomputable def loopR (C : Cfg) (f : Nat) (c : Code) (m : Nat) : Res → Res
  | some (.normal, fr, st) => runI C f c fr (gcT m fr st)
  | r => r
/-- A body's end. -/
noncomputable def endR (C : Cfg) (fn : Func) : Res → Option (T × St)
  | some (.exit _, _, _) => none
  | some (_, fr, st) => (resT C fn fr st.H).map fun t => (t, st)
  | none => none

section
variable {C : Cfg} {f : Nat} {c : Code} {fr : Fr} {st : St} {i id m : Nat}
theorem thenR_n : thenR C f c (some (.normal, fr, st)) = runI C f c fr st := rfl
theorem thenR_r : thenR C f c (some (.ret, fr, st)) = some (.ret, fr, st) := rfl
theorem thenR_e : thenR C f c (some (.exit i, fr, st)) = some (.exit i, fr, st) := rfl
theorem thenR_0 : thenR C f c none = none := rfl
theorem loopR_n : loopR C f c m (some (.normal, fr, st)) = runI C f c fr (gcT m fr st) := rfl
theorem loopR_r : loopR C f c m (some (.ret, fr, st)) = some (.ret, fr, st) := rfl
theorem loopR_e : loopR C f c m (some (.exit i, fr, st)) = some (.exit i, fr, st) := rfl
theorem loopR_0 : loopR C f c m none = none := rfl
theorem blockI_n : blockI id (some (.normal, fr, st)) = some (.normal, fr, st) := rfl
theorem blockI_r : blockI id (some (.ret, fr, st)) = some (.ret, fr, st) := rfl
theorem blockI_e : blockI id (some (.exit i, fr, st)) = if i = id then some (.normal, fr, st) else some (.exit i, fr, st) := rfl
theorem blockI_0 : blockI id none = none := rfl
theorem endR_n {fn : Func} : endR C fn (some (.normal, fr, st)) = (resT C fn fr st.H).map fun t => (t, st) := rfl
theorem endR_r {fn : Func} : endR C fn (some (.ret, fr, st)) = (resT C fn fr st.H).map fun t => (t, st) := rfl
theorem endR_0 {fn : Func} : endR C fn none = none := rfl

theorem run_seq {a b : Code} (h : c = .seq a b) : runI C f c fr st = thenR C f b (runI C f a fr st) := by
  subst h; rw [runI_seq]; rfl
theorem run_cond {x : Operand} {s : Nat} {a b : Code} (h : c = .cond (.tmp s) a b) : runI C f c fr st = ob (lookF fr s) fun v => gC v none (runI C f a fr st) (runI C f b fr st) := by
  subst h
  rw [runI_cond]
  simp only [opd]
  cases lookF fr s with
  | none => rfl
  | some v =>
    simp only [ob_some]
    cases v with
    | d v => cases v with
      | bool b => cases b <;> rfl
      | _ => rfl
    | tup cs => cases cs <;> rfl
    | _ => rfl
theorem run_block {a : Code} (h : c = .block id a) : runI C f c fr st = blockI id (runI C f a fr st) := by subst h; exact runI_block
theorem run_loop {a : Code} (h : c = .loop a) : runI C f c fr st = loopR C f c st.H.length (runI C f a fr st) := by
  subst h; rw [runI_loop]; rfl
theorem run_exit (h : c = .exit i) : runI C f c fr st = some (.exit i, fr, st) := by subst h; exact runI_exit
theorem run_ret (h : c = .ret) : runI C f c fr st = some (.ret, fr, st) := by subst h; exact runI_ret
theorem run_skip (h : c = .skip) : runI C f c fr st = some (.normal, fr, st) := by subst h; exact runI_skip

theorem body_eq {fn : Func} {as : List T} (h : fn.body = some c) : bodyI C f fn as st = endR C fn (runI C f c (enumF 0 as) st) := by
  unfold bodyI
  rw [h]
  simp only
  cases runI C f c (enumF 0 as) st with
  | none => rfl
  | some r => obtain ⟨e, fr, st⟩ := r; cases e <;> rfl

theorem call_inl {fn : Func} {as : List T} (h1 : C.prim f = none) (h2 : C.fn f = some fn) (h3 : C.pure f = false) (h : fn.body = some c) : callI C f as st = endR C fn (runI C f c (enumF 0 as) st) := by
  rw [callI_inl h1 h2 h3, body_eq h]
/-- A closed call's result, back in a state of its caller. -/
noncomputable def backR (st : St) : Option (T × St) → Option (T × St)
  | some (r, s') => retV s' st r
  | none => none
theorem call_pure {fn : Func} {as : List T} (h1 : C.prim f = none) (h2 : C.fn f = some fn) (h3 : C.pure f = true) (h : fn.body = some c) : callI C f as st = ob (closeAll as) fun as => backR st (endR C fn (runI C f c (enumF 0 as) ⟨[], []⟩)) := by
  rw [callI_pure h1 h2 h3]
  cases closeAll as with
  | none => rfl
  | some as => simp only [ob_some, body_eq h]; rfl
end
end Go.Tm
namespace Go.Tm
open Go
def resK {β : Type} (C : Cfg) : List ResultVar → Fr → List Box → (List T → Option β) → Option β
  | [], _, _, k => k []
  | .tmp t :: rs, fr, H, k => ob (lookF fr t) fun x => resK C rs fr H fun xs => k (x :: xs)
  | .cell a t :: rs, fr, H, k => ob (C.ty t) fun i => ob (lookF fr a) fun p => ob (loadV i.size (isAggD i.desc) H p) fun x => resK C rs fr H fun xs => k (x :: xs)

def oneT : List T → T
  | [t] => t
  | ts => .tup ts

theorem loadOp_eq {C : Cfg} {fr : Fr} {H : List Box} {t : TypeId} {a : Nat} : loadOp C fr H t (.tmp a) = ob (C.ty t) fun i => ob (lookF fr a) fun p => loadV i.size (isAggD i.desc) H p := by
  unfold loadOp
  simp only [opd]
  cases C.ty t with
  | none => rfl
  | some i => cases lookF fr a with
    | none => rfl
    | some p => cases p <;> rfl

theorem resK_eq {β : Type} {C : Cfg} {fr : Fr} {H : List Box} : ∀ (rs : List ResultVar) (k : List T → Option β), ob (resVars C fr H rs) k = resK C rs fr H k
  | [], k => rfl
  | .tmp t :: rs, k => by
    simp only [resVars, resVar, resK]
    cases lookF fr t with
    | none => rfl
    | some x => simp only [ob_some, ← resK_eq rs]; cases resVars C fr H rs <;> rfl
  | .cell a t :: rs, k => by
    simp only [resVars, resVar, resK, loadOp_eq]
    cases C.ty t with
    | none => rfl
    | some i => cases lookF fr a with
      | none => rfl
      | some p =>
        simp only [ob_some]
        cases loadV i.size (isAggD i.desc) H p with
        | none => rfl
        | some x => simp only [ob_some, ← resK_eq rs]; cases resVars C fr H rs <;> rfl

theorem resT_eq {C : Cfg} {fn : Func} {fr : Fr} {st : St} : (resT C fn fr st.H).map (fun t => (t, st)) = resK C fn.results.toList fr st.H fun xs => some (oneT xs, st) := by
  rw [← resK_eq]
  unfold resT
  cases resVars C fr st.H fn.results.toList with
  | none => rfl
  | some ts => cases ts with
    | nil => rfl
    | cons t ts => cases ts <;> rfl

theorem end_r {C : Cfg} {fn : Func} {fr : Fr} {st : St} : endR C fn (some (.ret, fr, st)) = resK C fn.results.toList fr st.H fun xs => some (oneT xs, st) := by rw [endR_r, resT_eq]
theorem end_n {C : Cfg} {fn : Func} {fr : Fr} {st : St} : endR C fn (some (.normal, fr, st)) = resK C fn.results.toList fr st.H fun xs => some (oneT xs, st) := by rw [endR_n, resT_eq]

def tyG (C : Cfg) (t : TypeId) : TypeDesc := (tyD C t).getD .string
def twV (b : Bool) (st : St) (r : T × St) : T := (thawT b st r.1 r.2).1.getD undefT
def twS (b : Bool) (st : St) (r : T × St) : St := (thawT b st r.1 r.2).2
end Go.Tm
end
section
set_option linter.unusedVariables false
set_option linter.unusedSimpArgs false
namespace Go.Tm
open Go

attribute [congr] ob_congr gC_congr
attribute [simp] ob_some ob_none gC_bool gC_true gC_false gC_undef thenR_n thenR_r thenR_e thenR_0 loopR_n loopR_r loopR_e loopR_0 blockI_n blockI_r blockI_e blockI_0 endR_0

@[simp] theorem ob_ite {α β : Type} (p : Prop) [Decidable p] (x y : Option α) (k : α → Option β) : ob (if p then x else y) k = if p then ob x k else ob y k := by split <;> rfl
@[simp] theorem thenR_ite {C : Cfg} {f : Nat} {c : Code} (p : Prop) [Decidable p] (x y : Res) : thenR C f c (if p then x else y) = if p then thenR C f c x else thenR C f c y := by split <;> rfl
@[simp] theorem loopR_ite {C : Cfg} {f : Nat} {c : Code} {m : Nat} (p : Prop) [Decidable p] (x y : Res) : loopR C f c m (if p then x else y) = if p then loopR C f c m x else loopR C f c m y := by split <;> rfl
@[simp] theorem blockI_ite {i : Nat} (p : Prop) [Decidable p] (x y : Res) : blockI i (if p then x else y) = if p then blockI i x else blockI i y := by split <;> rfl
@[simp] theorem endR_ite {C : Cfg} {fn : Func} (p : Prop) [Decidable p] (x y : Res) : endR C fn (if p then x else y) = if p then endR C fn x else endR C fn y := by split <;> rfl
@[simp] theorem backR_ite {st : St} (p : Prop) [Decidable p] (x y : Option (T × St)) : backR st (if p then x else y) = if p then backR st x else backR st y := by split <;> rfl
@[simp] theorem backR_some {st s' : St} {r : T} : backR st (some (r, s')) = retV s' st r := rfl

@[simp] theorem nilS_eq : nilS = .sl true 0 [] .ex := rfl
@[simp] theorem tt_eq : tt = .d (.bool true) := rfl
@[simp] theorem ff_eq : ff = .d (.bool false) := rfl
@[simp] theorem lookF_cons {s k : Nat} {t : T} {r : Fr} : lookF ((s, t) :: r) k = if s = k then some t else lookF r k := rfl
@[simp] theorem lookF_nil {k : Nat} : lookF [] k = none := rfl
@[simp] theorem enumF_nil {k : Nat} : enumF k [] = [] := rfl
@[simp] theorem enumF_cons {k : Nat} {t : T} {ts : List T} : enumF k (t :: ts) = (k, t) :: enumF (k + 1) ts := rfl
@[simp] theorem gt_true {β : Type} (x : Option β) (p : Prop) [Decidable p] : gt p x = if p then x else none := rfl

theorem gcT_stay {m : Nat} {fr : Fr} {H : List Box} {E : List Nat} (h : H.length ≤ m) : gcT m fr ⟨H, E⟩ = ⟨H, E⟩ := by unfold gcT; rw [if_pos h]
theorem gcT_cut {m : Nat} {fr : Fr} {H : List Box} {E : List Nat} (h : m < H.length) (hf : (fr.all fun e => e.2.lo m) = true) (hb : (H.take m).all (Box.lo m) = true) : gcT m fr ⟨H, E⟩ = ⟨H.take m, E⟩ := by
  unfold gcT
  rw [if_neg (by show ¬ H.length ≤ m; omega), if_pos (by rw [hf, hb]; rfl)]
@[simp] theorem lo_d {m : Nat} {v : Value} : T.lo m (.d v) = true := rfl
@[simp] theorem lo_sl {m n : Nat} {nl : Bool} {cs : List D} {o : Ow} : T.lo m (.sl nl n cs o) = true := rfl
@[simp] theorem lo_el {m j : Nat} {cs : List D} : T.lo m (.el cs j) = true := rfl
@[simp] theorem lo_ptr {m id off : Nat} : T.lo m (.ptr id off) = decide (id < m) := rfl
@[simp] theorem lo_loc {m id off n c : Nat} : T.lo m (.loc id off n c) = decide (id < m) := rfl
@[simp] theorem lo_mapr {m id : Nat} : T.lo m (.mapr id) = decide (id < m) := rfl
@[simp] theorem lo_agg {m : Nat} {cs : List T} : T.lo m (.agg cs) = cs.all (T.lo1 m) := rfl
@[simp] theorem lo_tup {m : Nat} {cs : List T} : T.lo m (.tup cs) = cs.all (T.lo1 m) := rfl
@[simp] theorem lo_clo {m f : Nat} {a b : List T} : T.lo m (.clo f a b) = (a.all (T.lo1 m) && b.all (T.lo1 m)) := rfl
@[simp] theorem lo1_d {m : Nat} {v : Value} : T.lo1 m (.d v) = true := rfl
@[simp] theorem lo1_sl {m n : Nat} {nl : Bool} {cs : List D} {o : Ow} : T.lo1 m (.sl nl n cs o) = true := rfl
@[simp] theorem lo1_ptr {m id off : Nat} : T.lo1 m (.ptr id off) = decide (id < m) := rfl
@[simp] theorem lob_cells {m : Nat} {cs : List T} : Box.lo m (.cells cs) = cs.all (T.lo m) := rfl
@[simp] theorem set_last {α : Type} {l : List α} {x y : α} : (l ++ [x]).set l.length y = l ++ [y] := by simp

/-! ### what a call hands on -/
def closeO : Ow → Ow
  | .ex => .ex
  | .lit => .ex
  | _ => .ro
@[simp] theorem closeO_ex : closeO .ex = .ex := rfl
@[simp] theorem closeO_lit : closeO .lit = .ex := rfl
@[simp] theorem closeO_ro : closeO .ro = .ro := rfl
@[simp] theorem closeO_tok {k : Nat} : closeO (.tok k) = .ro := rfl
@[simp] theorem closeO_closeO {o : Ow} : closeO (closeO o) = closeO o := by cases o <;> rfl
@[simp] theorem closeAll_nil : closeAll [] = some [] := rfl
@[simp] theorem closeAll_cons {t : T} {ts : List T} : closeAll (t :: ts) = ob (closeT t) fun a => ob (closeAll ts) fun b => some (a :: b) := by
  simp only [closeAll]; cases closeT t <;> cases closeAll ts <;> rfl
@[simp] theorem closeL_nil : closeL [] = some [] := rfl
@[simp] theorem closeL_cons {t : T} {ts : List T} : closeL (t :: ts) = ob (closeV t) fun a => ob (closeL ts) fun b => some (a :: b) := by
  simp only [closeL]; cases closeV t <;> cases closeL ts <;> rfl
@[simp] theorem closeT_d {v : Value} : closeT (.d v) = some (.d v) := rfl
@[simp] theorem closeT_sl {nl : Bool} {n : Nat} {cs : List D} {o : Ow} : closeT (.sl nl n cs o) = some (.sl nl n cs (closeO o)) := by cases o <;> rfl
@[simp] theorem closeV_d {v : Value} : closeV (.d v) = some (.d v) := rfl
@[simp] theorem closeV_sl {nl : Bool} {n : Nat} {cs : List D} {o : Ow} : closeV (.sl nl n cs o) = some (.sl nl n cs (closeO o)) := by cases o <;> rfl
@[simp] theorem closeT_agg {cs : List T} : closeT (.agg cs) = ob (closeL cs) fun cs => some (.agg cs) := by
  simp only [closeT]; cases closeL cs <;> rfl

@[simp] theorem ret1_d {s st : St} {v : Value} : ret1 s st (.d v) = some (.d v, st) := rfl
@[simp] theorem ret1_ro {s st : St} {nl : Bool} {n : Nat} {cs : List D} : ret1 s st (.sl nl n cs .ro) = some (.sl nl n cs .ro, st) := rfl
@[simp] theorem ret1_ex {s st : St} {nl : Bool} {n : Nat} {cs : List D} : ret1 s st (.sl nl n cs .ex) = some (.sl nl n cs .ex, st) := rfl
@[simp] theorem ret1_lit {s st : St} {nl : Bool} {n : Nat} {cs : List D} : ret1 s st (.sl nl n cs .lit) = some (.sl nl n cs .ex, st) := rfl
@[simp] theorem ret1_closeO {s st : St} {nl : Bool} {n : Nat} {cs : List D} {o : Ow} : ret1 s st (.sl nl n cs (closeO o)) = some (.sl nl n cs (closeO o), st) := by cases o <;> rfl
@[simp] theorem ret1_tok {s st : St} {nl : Bool} {n : Nat} {cs : List D} {k : Nat} : ret1 s st (.sl nl n cs (.tok k)) = if s.E[k]? = some n ∧ nl = false then some (.sl nl n cs (.tok st.E.length), { st with E := st.E ++ [n] }) else some (.sl nl n cs .ro, st) := rfl
@[simp] theorem ret1_agg {s st : St} {cs : List T} : ret1 s st (.agg cs) = ob (closeL cs) fun cs => some (.agg cs, st) := by
  show Option.map (fun t => (t, st)) (closeT (.agg cs)) = _
  rw [closeT_agg]; cases closeL cs <;> rfl
@[simp] theorem retV_nil {s st : St} : retV s st (.tup []) = some (.tup [], st) := rfl
@[simp] theorem retV_cons {s st : St} {t : T} {ts : List T} : retV s st (.tup (t :: ts)) = ob (ret1 s st t) fun p => ob (closeAll ts) fun b => some (.tup (p.1 :: b), p.2) := by
  simp only [retV]; cases ret1 s st t <;> cases closeAll ts <;> rfl
@[simp] theorem retV_d {s st : St} {v : Value} : retV s st (.d v) = some (.d v, st) := rfl
@[simp] theorem retV_sl {s st : St} {nl : Bool} {n : Nat} {cs : List D} {o : Ow} : retV s st (.sl nl n cs o) = ret1 s st (.sl nl n cs o) := rfl
@[simp] theorem retV_agg {s st : St} {cs : List T} : retV s st (.agg cs) = ret1 s st (.agg cs) := rfl
@[simp] theorem retV_loc {s st : St} {id n c : Nat} : retV s st (.loc id 0 n c) = ret1 s st (.loc id 0 n c) := rfl
@[simp] theorem ret1_loc {s st : St} {id n : Nat} : ret1 s st (.loc id 0 n n) = match s.H[id]? with | some (.cells cs) => ob (T.toDs cs) fun ds => some (.sl false n ds .ro, st) | _ => none := by
  simp only [ret1, if_true]
  cases s.H[id]? with
  | none => rfl
  | some b => cases b with
    | cells cs => simp only; cases T.toDs cs <;> rfl
    | _ => rfl

/-! ### numbers -/
section
variable {P : Program} {o : Op} {k k' : IntKind} {a b : Int} {u : TypeDesc} {t : TypeId}
@[simp] theorem minmax_max : minmaxV true (.d (.int k a)) (.d (.int k b)) = some (.d (.int k (max a b))) := by
  have : (if a < b then b else a) = max a b := by simp only [Int.max_def]; split <;> split <;> omega
  simp only [minmaxV, minmax, if_true, this]
@[simp] theorem minmax_min : minmaxV false (.d (.int k a)) (.d (.int k b)) = some (.d (.int k (min a b))) := by
  have : (if b < a then b else a) = min a b := by simp only [Int.min_def]; split <;> split <;> omega
  simp only [minmaxV, minmax, if_true, Bool.false_eq_true, if_false, this]
theorem nilEq_int : nilEq (.int k) (.d (.int k' a)) (.d (.int k b)) = none := rfl
theorem binV_int {op : BinOp} {x : T} (h : isShift op = false) (hf : fastI op k a b = some x) : binV P o op t (.int k) (.d (.int k a)) (.d (.int k b)) = some x := by
  unfold binV
  simp only [nilEq, fastOp, h, Bool.false_eq_true, if_false, if_true, hf]
@[simp] theorem binV_add : binV P o .add t (.int k) (.d (.int k a)) (.d (.int k b)) = some (.d (.int k (k.wrap (a + b)))) := binV_int rfl rfl
@[simp] theorem binV_sub : binV P o .sub t (.int k) (.d (.int k a)) (.d (.int k b)) = some (.d (.int k (k.wrap (a - b)))) := binV_int rfl rfl
@[simp] theorem binV_mul : binV P o .mul t (.int k) (.d (.int k a)) (.d (.int k b)) = some (.d (.int k (k.wrap (a * b)))) := binV_int rfl rfl
@[simp] theorem binV_eql : binV P o .eql t (.int k) (.d (.int k a)) (.d (.int k b)) = some (.d (.bool (decide (a = b)))) := binV_int rfl (by simp only [fastI]; rfl)
@[simp] theorem binV_neq : binV P o .neq t (.int k) (.d (.int k a)) (.d (.int k b)) = some (.d (.bool (!decide (a = b)))) := binV_int rfl (by simp only [fastI]; rfl)
@[simp] theorem binV_lss : binV P o .lss t (.int k) (.d (.int k a)) (.d (.int k b)) = some (.d (.bool (decide (a < b)))) := binV_int rfl rfl
@[simp] theorem binV_leq : binV P o .leq t (.int k) (.d (.int k a)) (.d (.int k b)) = some (.d (.bool (decide (a ≤ b)))) := binV_int rfl rfl
@[simp] theorem binV_gtr : binV P o .gtr t (.int k) (.d (.int k a)) (.d (.int k b)) = some (.d (.bool (decide (b < a)))) := binV_int rfl rfl
@[simp] theorem binV_geq : binV P o .geq t (.int k) (.d (.int k a)) (.d (.int k b)) = some (.d (.bool (decide (b ≤ a)))) := binV_int rfl rfl
theorem binV_quo (h : b ≠ 0) : binV P o .quo t (.int k) (.d (.int k a)) (.d (.int k b)) = some (.d (.int k (k.wrap (a.tdiv b)))) := binV_int rfl (by simp only [fastI]; rw [if_neg h])
theorem binV_rem (h : b ≠ 0) : binV P o .rem t (.int k) (.d (.int k a)) (.d (.int k b)) = some (.d (.int k (a.tmod b))) := binV_int rfl (by simp only [fastI]; rw [if_neg h])
theorem binV_shl (h : 0 ≤ b) : binV P o .shl t (.int k) (.d (.int k a)) (.d (.int k' b)) = some (.d (.int k (k.wrap (a * 2 ^ (min b.toNat k.bits))))) := by
  unfold binV
  simp only [nilEq, fastOp, isShift, if_true, fastS, h]
theorem binV_shr (h : 0 ≤ b) : binV P o .shr t (.int k) (.d (.int k a)) (.d (.int k' b)) = some (.d (.int k (a.fdiv (2 ^ (min b.toNat k.bits))))) := by
  unfold binV
  simp only [nilEq, fastOp, isShift, if_true, fastS, h]
theorem binV_and : binV P o .and t (.int k) (.d (.int k a)) (.d (.int k b)) = some (.d (.int k (k.wrap (BitVec.ofInt k.bits a &&& BitVec.ofInt k.bits b).toNat))) := binV_int rfl rfl
theorem binV_or : binV P o .or t (.int k) (.d (.int k a)) (.d (.int k b)) = some (.d (.int k (k.wrap (BitVec.ofInt k.bits a ||| BitVec.ofInt k.bits b).toNat))) := binV_int rfl rfl
@[simp] theorem notV_not {x : Bool} : notV P o .not (.d (.bool x)) = some (.d (.bool !x)) := rfl

theorem ba_eq {x y : ByteArray} : (x.data.toList == y.data.toList) = decide (x = y) := by
  rw [Bool.eq_iff_iff]
  simp only [beq_iff_eq, decide_eq_true_eq]
  constructor
  · intro h; cases x; cases y; simp only [ByteArray.mk.injEq]; exact Array.toList_inj.1 h
  · rintro rfl; rfl
@[simp] theorem binV_seq {x y : ByteArray} : binV P o .eql t .string (.d (.string x)) (.d (.string y)) = some (.d (.bool (decide (x = y)))) := by
  unfold binV; simp only [nilEq, fastOp, ba_eq]
@[simp] theorem binV_sne {x y : ByteArray} : binV P o .neq t .string (.d (.string x)) (.d (.string y)) = some (.d (.bool (!decide (x = y)))) := by
  unfold binV; simp only [nilEq, fastOp, ba_eq]
@[simp] theorem binV_nil {e : TypeId} {nl : Bool} {n : Nat} {cs : List D} {w : Ow} : binV P o .eql t (.slice e) (.sl nl n cs w) (.sl true 0 [] .ex) = some (.d (.bool nl)) := by cases nl <;> rfl
@[simp] theorem binV_nonnil {e : TypeId} {nl : Bool} {n : Nat} {cs : List D} {w : Ow} : binV P o .neq t (.slice e) (.sl nl n cs w) (.sl true 0 [] .ex) = some (.d (.bool !nl)) := by cases nl <;> rfl

/-- Truths held against each other. -/
theorem binV_beq {x y : Bool} (h : P.underlying t = some .bool) : binV P o .eql t .bool (.d (.bool x)) (.d (.bool y)) = some (.d (.bool (decide (x = y)))) := by
  unfold binV; simp only [nilEq, fastOp, eqT, h, eqR]
theorem binV_bne {x y : Bool} (h : P.underlying t = some .bool) : binV P o .neq t .bool (.d (.bool x)) (.d (.bool y)) = some (.d (.bool (!decide (x = y)))) := by
  unfold binV; simp only [nilEq, fastOp, eqT, h, eqR]
theorem binV_cat {x y : ByteArray} (h : x.size + y.size ≤ 9223372036854775807) : binV P o .add t .string (.d (.string x)) (.d (.string y)) = some (.d (.string (x ++ y))) := by
  unfold binV; simp only [nilEq, fastOp, h, if_true]
theorem nilEq_agg {xs ys : List T} : nilEq u (.agg xs) (.agg ys) = none := by cases u <;> rfl
theorem binV_aeq {xs ys : List T} {fs : Array Field} {r : Bool} (h : P.underlying t = some (.struct fs)) (h1 : P.stoodInHeld t = false ∧ P.eqGuardType P.depth t = false) (h2 : fieldsEq P xs ys fs.toList = some r) : binV P o .eql t u (.agg xs) (.agg ys) = some (.d (.bool r)) := by
  unfold binV; rw [nilEq_agg]; simp only [fastOp, eqT, h, eqR]; rw [if_pos h1, h2]
theorem binV_ane {xs ys : List T} {fs : Array Field} {r : Bool} (h : P.underlying t = some (.struct fs)) (h1 : P.stoodInHeld t = false ∧ P.eqGuardType P.depth t = false) (h2 : fieldsEq P xs ys fs.toList = some r) : binV P o .neq t u (.agg xs) (.agg ys) = some (.d (.bool !r)) := by
  unfold binV; rw [nilEq_agg]; simp only [fastOp, eqT, h, eqR]; rw [if_pos h1, h2]
theorem indexV_str {s : ByteArray} {c : UInt8} (h : P.underlying t = some .string) (h0 : 0 ≤ a) (hc : s.data.toList[a.toNat]? = some c) : indexV P o t (.d (.string s)) (.d (.int k a)) = some (.d (.int .u8 c.toNat)) := by
  unfold indexV; simp only [strIx, h]; rw [if_pos h0, hc]; rfl

@[simp] theorem convV_int {same : Bool} {u : TypeDesc} {e1 e2 : Option TypeDesc} : convV P o same (some u) (some (.int k)) e1 e2 (.d (.int k' a)) = some (.d (.int k (k.wrap a))) := rfl
end

/-! ### slices -/
section
variable {n m : Nat} {H : List Box} {nl : Bool} {cs : List D} {o : Ow} {k : IntKind} {i : Int} {e : TypeId}
@[simp] theorem lenV_sl : lenV (.slice e) H (.sl nl m cs o) = some (.d (.int .i64 m)) := rfl
@[simp] theorem lenV_loc {id off c : Nat} : lenV (.slice e) H (.loc id off m c) = some (.d (.int .i64 m)) := rfl
@[simp] theorem lenV_str {s : ByteArray} : lenV .string H (.d (.string s)) = some (.d (.int .i64 s.size)) := rfl
theorem ixV_sl (h0 : 0 ≤ i) (h1 : i < m) : ixV n (.sl false m cs o) (.d (.int k i)) = some (.el cs (i.toNat * n)) := by
  simp only [ixV, intV]; rw [if_pos ⟨h0, h1⟩]
theorem ixV_loc {id off c : Nat} (h0 : 0 ≤ i) (h1 : i < m) : ixV n (.loc id off m c) (.d (.int k i)) = some (.ptr id (off + i.toNat * n)) := by
  simp only [ixV, intV]; rw [if_pos ⟨h0, h1⟩]
@[simp] theorem nilV_ptr {id off : Nat} : nilV (.ptr id off) = some (.ptr id off) := rfl
@[simp] theorem nilV_el {j : Nat} : nilV (.el cs j) = some (.el cs j) := rfl
@[simp] theorem addrV_ptr {id off a : Nat} : addrV a (.ptr id off) = some (.ptr id (off + a)) := rfl
@[simp] theorem addrV_el {j a : Nat} : addrV a (.el cs j) = some (.el cs (j + a)) := rfl
theorem pieceL_one {α : Type} {l : List α} {j : Nat} : pieceL l j 1 = (l[j]?).map fun x => [x] := by
  unfold pieceL
  by_cases h : j < l.length
  · rw [if_pos (by omega), List.getElem?_eq_getElem h, List.drop_eq_getElem_cons h]; rfl
  · rw [if_neg (by omega), List.getElem?_eq_none (by omega)]; rfl
@[simp] theorem loadV_el1 {j : Nat} : loadV 1 false H (.el cs j) = (cs[j]?).map D.toT := by
  simp only [loadV, pieceL_one]; cases cs[j]? <;> rfl
@[simp] theorem loadV_elA {j : Nat} : loadV n true H (.el cs j) = ob (pieceL cs j n) fun ds => some (.agg (ds.map D.toT)) := by
  simp only [loadV]; cases pieceL cs j n <;> rfl
/-- What a box holds. -/
def boxOf (H : List Box) (id : Nat) : Option (List T) :=
  match H[id]? with
  | some (.cells cs) => some cs
  | _ => none
@[simp] theorem loadV_ptr1 {id off : Nat} : loadV 1 false H (.ptr id off) = ob (boxOf H id) fun cs => cs[off]? := by
  simp only [loadV, boxOf, pieceL_one]
  cases H[id]? with
  | none => rfl
  | some b => cases b with
    | cells cs => simp only [ob_some]; cases cs[off]? <;> rfl
    | _ => rfl
@[simp] theorem loadV_ptrA {id off : Nat} : loadV n true H (.ptr id off) = ob (boxOf H id) fun cs => ob (pieceL cs off n) fun ds => some (.agg ds) := by
  simp only [loadV, boxOf]
  cases H[id]? with
  | none => rfl
  | some b => cases b with
    | cells cs => simp only [ob_some]; cases pieceL cs off n <;> rfl
    | _ => rfl
theorem boxOf_eq {id : Nat} {cs : List T} (h : H[id]? = some (.cells cs)) : boxOf H id = some cs := by unfold boxOf; rw [h]
@[simp] theorem boxOf_zero {cs : List T} : boxOf (.cells cs :: H) 0 = some cs := rfl
@[simp] theorem boxOf_succ {b : Box} {id : Nat} : boxOf (b :: H) (id + 1) = boxOf H id := by simp only [boxOf, List.getElem?_cons_succ]
@[simp] theorem boxOf_one {b : Box} {cs : List T} : boxOf (b :: .cells cs :: H) 1 = some cs := rfl
@[simp] theorem boxOf_two {b c : Box} {cs : List T} : boxOf (b :: c :: .cells cs :: H) 2 = some cs := rfl
@[simp] theorem boxOf_three {b c d : Box} {cs : List T} : boxOf (b :: c :: d :: .cells cs :: H) 3 = some cs := rfl
@[simp] theorem boxOf_new {cs : List T} : boxOf (H ++ [.cells cs]) H.length = some cs := by simp [boxOf]
@[simp] theorem storeV_ptr {id off : Nat} {v : T} : storeV n H (.ptr id off) v = ob (boxOf H id) fun cs => if v.cells.length = n ∧ v.cells.all T.one = true then ob (putAt cs off v.cells) fun cs' => some (H.set id (.cells cs')) else none := by
  simp only [storeV, boxOf]
  cases H[id]? with
  | none => rfl
  | some b => cases b with
    | cells cs =>
      simp only [ob_some]
      split
      · cases putAt cs off v.cells <;> rfl
      · rfl
    | _ => rfl
@[simp] theorem exV_tup {ix : Nat} {ts : List T} : exV ix (.tup ts) = ts[ix]? := rfl
@[simp] theorem toDs_nil : T.toDs [] = some [] := rfl
@[simp] theorem toDs_cons {t : T} {ts : List T} : T.toDs (t :: ts) = ob (T.toD t) fun x => ob (T.toDs ts) fun xs => some (x :: xs) := by
  simp only [T.toDs]; cases T.toD t <;> cases T.toDs ts <;> rfl
@[simp] theorem toD_d {v : Value} : T.toD (.d v) = some (.flat v) := rfl
@[simp] theorem toD_sl : T.toD (.sl nl m cs o) = some (.slc nl m cs) := rfl
@[simp] theorem toT_flat {v : Value} : D.toT (.flat v) = .d v := rfl
@[simp] theorem toT_slc : D.toT (.slc nl m cs) = .sl nl m cs .ro := rfl
@[simp] theorem cells_d {v : Value} : T.cells (.d v) = [.d v] := rfl
@[simp] theorem cells_sl : T.cells (.sl nl m cs o) = [.sl nl m cs o] := rfl
@[simp] theorem cells_ptr {id off : Nat} : T.cells (.ptr id off) = [.ptr id off] := rfl
@[simp] theorem cells_mapr {id : Nat} : T.cells (.mapr id) = [.mapr id] := rfl
@[simp] theorem cells_loc {id off c : Nat} : T.cells (.loc id off m c) = [.loc id off m c] := rfl
@[simp] theorem cells_clo {f : Nat} {a b : List T} : T.cells (.clo f a b) = [.clo f a b] := rfl
@[simp] theorem cells_agg {ts : List T} : T.cells (.agg ts) = ts := rfl
@[simp] theorem one_d {v : Value} : T.one (.d v) = true := rfl
@[simp] theorem one_sl : T.one (.sl nl m cs o) = true := rfl
@[simp] theorem one_ptr {id off : Nat} : T.one (.ptr id off) = true := rfl
@[simp] theorem one_mapr {id : Nat} : T.one (.mapr id) = true := rfl
@[simp] theorem one_loc {id off c : Nat} : T.one (.loc id off m c) = true := rfl
@[simp] theorem one_clo {f : Nat} {a b : List T} : T.one (.clo f a b) = true := rfl

@[simp] theorem repeatL_zero {α : Type} {zs : List α} : repeatL zs 0 = [] := rfl
@[simp] theorem repeatL_one {α : Type} {zs : List α} : repeatL zs 1 = zs := by simp [repeatL]
@[simp] theorem fillA_nil {zs : List T} : fillA n zs [] = some zs := rfl
@[simp] theorem fillS_nil {zs : List T} {pl : List (Nat × Nat)} : fillS pl zs [] = some zs := rfl
@[simp] theorem fillA_cons {zs : List T} {i : Nat} {t : T} {ps : List (Nat × T)} : fillA n zs ((i, t) :: ps) = if t.cells.length = n then ob (putAt zs (i * n) t.cells) fun zs => fillA n zs ps else none := by
  simp only [fillA, fillT]
  split
  · cases putAt zs (i * n) t.cells <;> rfl
  · rfl
@[simp] theorem fillS_cons {zs : List T} {i : Nat} {t : T} {ps : List (Nat × T)} {pl : List (Nat × Nat)} : fillS pl zs ((i, t) :: ps) = ob pl[i]? fun p => if t.cells.length = p.2 then ob (putAt zs p.1 t.cells) fun zs => fillS pl zs ps else none := by
  simp only [fillS, fillT]
  cases pl[i]? with
  | none => rfl
  | some p =>
    simp only [ob_some]
    split
    · cases putAt zs p.1 t.cells <;> rfl
    · rfl
theorem putAt_one {α : Type} {l : List α} {off : Nat} {x : α} (h : off < l.length) : putAt l off [x] = some (l.set off x) := by
  unfold putAt
  rw [if_pos (show off + [x].length ≤ l.length from h)]
  congr 1
  rw [List.set_eq_take_append_cons_drop, if_pos h]; simp

/-- Onto a slice whose array is full, or just made. -/
theorem appV_ex {st : St} {b k : Nat} {ys : List D} {y : T} (hc : cs.length = m * n) (hy : tailOf st n y = some (k, ys)) (hk : 0 < k) (hr : (m + k) * b ≤ roomB) :
    appV n b st (.sl nl m cs .ex) y = some (.sl false (m + k) (cs ++ ys) (.tok st.E.length), st.E ++ [m + k]) := by
  simp only [appV]; rw [if_pos hc, hy]; simp only; rw [if_neg (by omega), if_pos hr]
theorem appV_lit {st : St} {b k : Nat} {ys : List D} {y : T} (hc : cs.length = m * n) (hy : tailOf st n y = some (k, ys)) (hk : 0 < k) (hr : (m + k) * b ≤ roomB) :
    appV n b st (.sl nl m cs .lit) y = some (.sl false (m + k) (cs ++ ys) (.tok st.E.length), st.E ++ [m + k]) := by
  simp only [appV]; rw [if_pos hc, hy]; simp only; rw [if_neg (by omega), if_pos hr]
theorem appV_tok {st : St} {b k j : Nat} {ys : List D} {y : T} (hc : cs.length = m * n) (hy : tailOf st n y = some (k, ys)) (hk : 0 < k) (hr : (m + k) * b ≤ roomB) (hj : st.E[j]? = some m) (hm : 0 < m ∨ n = 1) :
    appV n b st (.sl false m cs (.tok j)) y = some (.sl false (m + k) (cs ++ ys) (.tok j), st.E.set j (m + k)) := by
  simp only [appV]; rw [if_pos hc, hy]; simp only; rw [if_neg (by omega), if_pos hr, if_pos ⟨hj, trivial, hm⟩]
theorem appV_none {st : St} {b : Nat} {ys : List D} {y : T} (hc : cs.length = m * n) (hy : tailOf st n y = some (0, ys)) :
    appV n b st (.sl nl m cs o) y = some (.sl nl m cs o, st.E) := by
  simp only [appV]; rw [if_pos hc, hy]; simp only; rw [if_pos trivial]
theorem appV_exS {st : St} {b k : Nat} {nl' : Bool} {o' : Ow} {ys : List D} (hc : cs.length = m * n) (hy : ys.length = k * n) (hk : 0 < k) (hr : (m + k) * b ≤ roomB) :
    appV n b st (.sl nl m cs .ex) (.sl nl' k ys o') = some (.sl false (m + k) (cs ++ ys) (.tok st.E.length), st.E ++ [m + k]) := appV_ex hc (by simp only [tailOf, hy, if_true]) hk hr
theorem appV_litS {st : St} {b k : Nat} {nl' : Bool} {o' : Ow} {ys : List D} (hc : cs.length = m * n) (hy : ys.length = k * n) (hk : 0 < k) (hr : (m + k) * b ≤ roomB) :
    appV n b st (.sl nl m cs .lit) (.sl nl' k ys o') = some (.sl false (m + k) (cs ++ ys) (.tok st.E.length), st.E ++ [m + k]) := appV_lit hc (by simp only [tailOf, hy, if_true]) hk hr
theorem appV_tokS {st : St} {b k j : Nat} {nl' : Bool} {o' : Ow} {ys : List D} (hc : cs.length = m * n) (hy : ys.length = k * n) (hk : 0 < k) (hr : (m + k) * b ≤ roomB) (hj : st.E[j]? = some m) (hm : 0 < m ∨ n = 1) :
    appV n b st (.sl false m cs (.tok j)) (.sl nl' k ys o') = some (.sl false (m + k) (cs ++ ys) (.tok j), st.E.set j (m + k)) := appV_tok hc (by simp only [tailOf, hy, if_true]) hk hr hj hm
theorem appV_noneS {st : St} {b : Nat} {nl' : Bool} {o' : Ow} (hc : cs.length = m * n) : appV n b st (.sl nl m cs o) (.sl nl' 0 [] o') = some (.sl nl m cs o, st.E) := appV_none (ys := []) hc (by simp only [tailOf, List.length_nil, Nat.zero_mul, if_true])
theorem tailOf_sl {st : St} (h : cs.length = m * n) : tailOf st n (.sl nl m cs o) = some (m, cs) := by simp only [tailOf, h, if_true]
@[simp] theorem tailOf_str {st : St} {s : ByteArray} : tailOf st 1 (.d (.string s)) = some (s.size, bytesD s) := by simp only [tailOf, if_true]

@[simp] theorem intP_none : intP none = some none := rfl
@[simp] theorem intP_int : intP (some (.d (.int k i))) = some (some i) := rfl
theorem cutB_ok {lo hi : Option Int} (h0 : 0 ≤ lo.getD 0) (h1 : lo.getD 0 ≤ hi.getD m) (h2 : hi.getD m ≤ m) : cutB m lo hi none = some ((lo.getD 0).toNat, (hi.getD m).toNat, none) := by
  simp only [cutB]; rw [if_pos ⟨h0, h1, h2⟩]
end

/-! ### cuts -/
section
variable {n m : Nat} {nl : Bool} {cs : List D} {o : Ow} {k k' k2 : IntKind} {i j : Int} {e : TypeId}
theorem sliceV_hi (hc : cs.length = m * n) (h0 : 0 ≤ j) (h1 : j ≤ m) : sliceV (.slice e) (some n) (.sl nl m cs o) none (some (.d (.int k j))) none = some (.sl nl j.toNat (cs.take (j.toNat * n)) (cutO o m 0 j.toNat none)) := by
  simp only [sliceV, intP_none, intP_int, cutB]
  rw [if_pos (by simp; omega)]
  simp [hc]
theorem sliceV_lo (hc : cs.length = m * n) (h0 : 0 ≤ i) (h1 : i ≤ m) : sliceV (.slice e) (some n) (.sl nl m cs o) (some (.d (.int k i))) none none = some (.sl nl (m - i.toNat) (cs.drop (i.toNat * n)) (cutO o m i.toNat m none)) := by
  simp only [sliceV, intP_none, intP_int, cutB]
  rw [if_pos (by simp; omega)]
  simp only [Option.getD_some, Option.getD_none, Int.toNat_natCast, hc, if_true]
  rw [List.take_of_length_le]
  rw [List.length_drop, hc, Nat.sub_mul]; exact Nat.le_refl _
theorem sliceV_mid (hc : cs.length = m * n) (h0 : 0 ≤ i) (h1 : i ≤ j) (h2 : j ≤ m) : sliceV (.slice e) (some n) (.sl nl m cs o) (some (.d (.int k i))) (some (.d (.int k' j))) none =
    some (.sl nl (j.toNat - i.toNat) ((cs.drop (i.toNat * n)).take ((j.toNat - i.toNat) * n)) (cutO o m i.toNat j.toNat none)) := by
  simp only [sliceV, intP_none, intP_int, cutB]
  rw [if_pos (by simp; omega)]
  simp [hc]
theorem sliceV_clip (hc : cs.length = m * n) : sliceV (.slice e) (some n) (.sl nl m cs o) none (some (.d (.int k m))) (some (.d (.int k' m))) = some (.sl nl m cs .ex) := by
  simp only [sliceV, intP_none, intP_int, cutB]
  rw [if_pos (by simp)]
  simp only [Option.getD_none, Int.toNat_natCast, hc, if_true]
  simp [cutO, ← hc]
variable {s : ByteArray} {sz : Option Nat}
theorem sliceV_slo (h0 : 0 ≤ i) (h1 : i ≤ s.size) : sliceV .string sz (.d (.string s)) (some (.d (.int k i))) none none = some (.d (.string (s.extract i.toNat s.size))) := by
  simp only [sliceV, intP_none, intP_int, cutB]
  rw [if_pos (by simp; omega)]
  simp
theorem sliceV_shi (h0 : 0 ≤ j) (h1 : j ≤ s.size) : sliceV .string sz (.d (.string s)) none (some (.d (.int k j))) none = some (.d (.string (s.extract 0 j.toNat))) := by
  simp only [sliceV, intP_none, intP_int, cutB]
  rw [if_pos (by simp; omega)]
  simp
theorem sliceV_smid (h0 : 0 ≤ i) (h1 : i ≤ j) (h2 : j ≤ s.size) : sliceV .string sz (.d (.string s)) (some (.d (.int k i))) (some (.d (.int k' j))) none = some (.d (.string (s.extract i.toNat j.toNat))) := by
  simp only [sliceV, intP_none, intP_int, cutB]
  rw [if_pos (by simp; omega)]
  simp
end

/-! ### bytes -/
def u8s (l : List UInt8) : List D := l.map fun b => .flat (.int .u8 b.toNat)
@[simp] theorem u8s_length (l : List UInt8) : (u8s l).length = l.length := by simp [u8s]
@[simp] theorem u8s_nil : u8s [] = [] := rfl
theorem u8s_append (l m : List UInt8) : u8s (l ++ m) = u8s l ++ u8s m := by simp [u8s]
theorem u8s_take (l : List UInt8) (n : Nat) : (u8s l).take n = u8s (l.take n) := by simp [u8s]
theorem u8s_drop (l : List UInt8) (n : Nat) : (u8s l).drop n = u8s (l.drop n) := by simp [u8s]
@[simp] theorem u8s_get (l : List UInt8) (i : Nat) : (u8s l)[i]? = (l[i]?).map fun b => .flat (.int .u8 b.toNat) := by simp [u8s]
@[simp] theorem u8s_getElem (l : List UInt8) (i : Nat) (h : i < (u8s l).length) : (u8s l)[i] = .flat (.int .u8 (l[i]'(by simpa using h)).toNat) := by simp [u8s]
@[simp] theorem strOfD_u8s : ∀ (l : List UInt8), strOfD (u8s l) = some l
  | [] => rfl
  | b :: l => by
    have := strOfD_u8s l
    simp only [u8s, List.map_cons, strOfD, byteOfD] at this ⊢
    rw [this]
    simp
@[simp] theorem bytesD_eq (s : ByteArray) : bytesD s = u8s s.data.toList := rfl
/-- A slice of bytes: whether it is nil; what it holds; what is known of its room. -/
abbrev bsl (nl : Bool) (l : List UInt8) (o : Ow) : T := .sl (nl && l.isEmpty) l.length (u8s l) o
/-- A number's last octet. -/
def ub (y : Int) : UInt8 := UInt8.ofNat (y % 256).toNat
theorem wrap8 (y : Int) : IntKind.u8.wrap y = y % 256 := by
  rw [IntKind.wrap_u8]
theorem ub_nat (y : Int) : ((ub y).toNat : Int) = y % 256 := by
  have h0 : 0 ≤ y % 256 := Int.emod_nonneg _ (by omega)
  have h1 : y % 256 < 256 := Int.emod_lt_of_pos _ (by omega)
  simp only [ub, UInt8.toNat_ofNat']
  omega
theorem u8s_wrap (y : Int) : [D.flat (.int .u8 (IntKind.u8.wrap y))] = u8s [ub y] := by
  simp [u8s, wrap8, ub_nat]
theorem u8s_app (l m : List UInt8) : u8s l ++ u8s m = u8s (l ++ m) := (u8s_append l m).symm
/-- An octet of a number. -/
def oct (n k : Nat) : UInt8 := UInt8.ofNat (n / 256 ^ k)
end Go.Tm
end
section
set_option linter.unusedVariables false
set_option linter.unusedSimpArgs false
namespace Go.Tm
open Go

theorem flat_length {α : Type} {f : α → List D} {n : Nat} (hf : ∀ a, (f a).length = n) : ∀ (l : List α), (l.flatMap f).length = l.length * n
  | [] => by simp
  | a :: l => by simp only [List.flatMap_cons, List.length_append, hf, flat_length hf l, List.length_cons, Nat.succ_mul]; omega
theorem flat_drop {α : Type} {f : α → List D} {n : Nat} (hf : ∀ a, (f a).length = n) : ∀ (l : List α) (i : Nat), (l.flatMap f).drop (i * n) = (l.drop i).flatMap f
  | l, 0 => by simp
  | [], i + 1 => by simp
  | a :: l, i + 1 => by
    rw [List.flatMap_cons, List.drop_succ_cons, ← flat_drop hf l i, Nat.succ_mul, Nat.add_comm, ← List.drop_drop]
    congr 1
    rw [← hf a, List.drop_left]
theorem flat_piece {α : Type} {f : α → List D} {n : Nat} (hf : ∀ a, (f a).length = n) (l : List α) (i : Nat) (h : i < l.length) : pieceL (l.flatMap f) (i * n) n = some (f l[i]) := by
  unfold pieceL
  have h1 := flat_length hf l
  have h2 : i * n + n ≤ l.length * n := by rw [← Nat.succ_mul]; exact Nat.mul_le_mul_right n h
  rw [if_pos (by omega), flat_drop hf, List.drop_eq_getElem_cons h, List.flatMap_cons]
  congr 1
  rw [← hf l[i], List.take_left]

/-- A slice that may be appended to. -/
def Own (E : List Nat) (nl : Bool) (n : Nat) (o : Ow) : Prop := o = .ex ∨ o = .lit ∨ ∃ j, o = .tok j ∧ E[j]? = some n ∧ nl = false ∧ 0 < n

theorem own_app {E E' : List Nat} {nl : Bool} {n : Nat} {o : Ow} (h : Own E nl n o) : Own (E ++ E') nl n o := by
  rcases h with h | h | ⟨j, h1, h2, h3, h4⟩
  · exact .inl h
  · exact .inr (.inl h)
  · exact .inr (.inr ⟨j, h1, by rw [List.getElem?_append_left (List.getElem?_eq_some_iff.1 h2).1, h2], h3, h4⟩)

theorem own_tok {E : List Nat} {n : Nat} (h : 0 < n) : Own (E ++ [n]) false n (.tok E.length) := .inr (.inr ⟨_, rfl, by simp, rfl, h⟩)
theorem own_ex {E : List Nat} {nl : Bool} {n : Nat} : Own E nl n .ex := .inl rfl

theorem app_own {st : St} {n b m k : Nat} {nl nl' : Bool} {cs ys : List D} {o o' : Ow} (h : Own st.E nl m o) (hc : cs.length = m * n) (hy : ys.length = k * n) (hk : 0 < k) (hr : (m + k) * b ≤ roomB) :
    ∃ o2 E2, appV n b st (.sl nl m cs o) (.sl nl' k ys o') = some (.sl false (m + k) (cs ++ ys) o2, E2) ∧ Own E2 false (m + k) o2 := by
  rcases h with rfl | rfl | ⟨j, rfl, h2, rfl, h4⟩
  · exact ⟨_, _, appV_exS hc hy hk hr, own_tok (by omega)⟩
  · exact ⟨_, _, appV_litS hc hy hk hr, own_tok (by omega)⟩
  · refine ⟨_, _, appV_tokS hc hy hk hr h2 (.inl h4), .inr (.inr ⟨j, rfl, ?_, rfl, by omega⟩)⟩
    rw [List.getElem?_set_self (List.getElem?_eq_some_iff.1 h2).1]

/-- What a closed call's slice is to its caller. -/
theorem ret_sl {s st : St} {nl : Bool} {n : Nat} {cs : List D} {o : Ow} : ∃ o' E', ret1 s st (.sl nl n cs o) = some (.sl nl n cs o', ⟨st.H, E'⟩) := by
  cases o with
  | tok k =>
    simp only [ret1_tok]
    split
    · exact ⟨_, _, rfl⟩
    · exact ⟨_, _, rfl⟩
  | _ => exact ⟨_, _, rfl⟩
theorem ret_own {s st : St} {nl : Bool} {n : Nat} {cs : List D} {o : Ow} (h : Own s.E nl n o) : ∃ o' E', ret1 s st (.sl nl n cs o) = some (.sl nl n cs o', ⟨st.H, st.E ++ E'⟩) ∧ Own (st.E ++ E') nl n o' := by
  rcases h with rfl | rfl | ⟨j, rfl, h2, rfl, h4⟩
  · exact ⟨.ex, [], by simp, own_ex⟩
  · exact ⟨.ex, [], by simp, own_ex⟩
  · exact ⟨.tok st.E.length, [n], by simp [h2], own_tok h4⟩

section
variable {α : Type} {a b c d e f g : α}
@[simp] theorem pieceL2 : pieceL [a, b] 0 2 = some [a, b] := rfl
@[simp] theorem pieceL3 : pieceL [a, b, c] 0 3 = some [a, b, c] := rfl
@[simp] theorem pieceL4 : pieceL [a, b, c, d] 0 4 = some [a, b, c, d] := rfl
@[simp] theorem pieceL5 : pieceL [a, b, c, d, e] 0 5 = some [a, b, c, d, e] := rfl
@[simp] theorem pieceL6 : pieceL [a, b, c, d, e, f] 0 6 = some [a, b, c, d, e, f] := rfl
@[simp] theorem pieceL7 : pieceL [a, b, c, d, e, f, g] 0 7 = some [a, b, c, d, e, f, g] := rfl
end

/-! ### api.Do -/
structure DoV where
  kind : Int
  n : Int
  text : ByteArray
  deriving Inhabited, DecidableEq
def DoV.d (x : DoV) : List D := [.flat (.int .i64 x.kind), .flat (.int .i64 x.n), .flat (.string x.text)]
def DoV.t (x : DoV) : List T := [.d (.int .i64 x.kind), .d (.int .i64 x.n), .d (.string x.text)]
def dosD (l : List DoV) : List D := l.flatMap DoV.d
@[simp] theorem dosD_length (l : List DoV) : (dosD l).length = l.length * 3 := flat_length (f := DoV.d) (n := 3) (fun _ => rfl) l
@[simp] theorem dosD_nil : dosD [] = [] := rfl
theorem dosD_piece (l : List DoV) (i : Nat) (h : i < l.length) : pieceL (dosD l) (i * 3) 3 = some l[i].d := flat_piece (f := DoV.d) (n := 3) (fun _ => rfl) l i h
theorem flat_get {α : Type} {f : α → List D} {n : Nat} (hf : ∀ a, (f a).length = n) (l : List α) (i j : Nat) (h : i < l.length) (hj : j < n) : (l.flatMap f)[i * n + j]? = (f l[i])[j]? := by
  have h1 := flat_drop hf l i
  have h2 : (l.flatMap f)[i * n + j]? = ((l.flatMap f).drop (i * n))[j]? := by rw [List.getElem?_drop]
  rw [h2, h1, List.drop_eq_getElem_cons h, List.flatMap_cons, List.getElem?_append_left (by rw [hf]; exact hj)]
theorem dosD_get (l : List DoV) (i : Nat) (h : i < l.length) : (dosD l)[i * 3]? = some (.flat (.int .i64 l[i].kind)) ∧ (dosD l)[i * 3 + 1]? = some (.flat (.int .i64 l[i].n)) ∧ (dosD l)[i * 3 + 2]? = some (.flat (.string l[i].text)) :=
  ⟨flat_get (f := DoV.d) (n := 3) (fun _ => rfl) l i 0 h (by omega), flat_get (f := DoV.d) (n := 3) (fun _ => rfl) l i 1 h (by omega), flat_get (f := DoV.d) (n := 3) (fun _ => rfl) l i 2 h (by omega)⟩
@[simp] theorem DoV_map (x : DoV) : x.d.map D.toT = x.t := rfl
theorem dosD_append (l m : List DoV) : dosD (l ++ m) = dosD l ++ dosD m := by simp [dosD]
theorem dosD_one (x : DoV) : x.d = dosD [x] := by simp [dosD]

/-! ### rows of bytes -/
abbrev Row := Bool × List UInt8
def rowD (r : Row) : D := .slc (r.1 && r.2.isEmpty) r.2.length (u8s r.2)
def rowsD (l : List Row) : List D := l.map rowD
@[simp] theorem rowsD_length (l : List Row) : (rowsD l).length = l.length := by simp [rowsD]
@[simp] theorem rowsD_nil : rowsD [] = [] := rfl
@[simp] theorem rowsD_get (l : List Row) (i : Nat) : (rowsD l)[i]? = (l[i]?).map rowD := by simp [rowsD]
@[simp] theorem rowsD_getElem (l : List Row) (i : Nat) (h : i < (rowsD l).length) : (rowsD l)[i] = rowD (l[i]'(by simpa using h)) := by simp [rowsD]
@[simp] theorem rowD_toT (r : Row) : (rowD r).toT = .sl (r.1 && r.2.isEmpty) r.2.length (u8s r.2) .ro := rfl
theorem rowsD_append (l m : List Row) : rowsD (l ++ m) = rowsD l ++ rowsD m := by simp [rowsD]
theorem nl_nil {b : Bool} {l : List UInt8} (h : (b && l.isEmpty) = true) : l = [] := by simp at h; exact h.2
end Go.Tm
end
