/- The layer, sixteenth part: all operations together: the proof; regions that run in the one order. -/
import Derived.Test.YthheaehpnleiaaaAxO
namespace Go.Proofs.Ythheaehpnleiaaa.AX
open Go
set_option linter.unusedVariables false
set_option linter.unusedSimpArgs false

theorem run_value {P : Program} {w : World} {s : Sem Value} {v : Value} {w' : World} (h : s.run P w = .ok v w') : (do pure (Next.value (← s)) : Sem Next).run P w = .ok (.value v) w' := by
  simp only [Sem.run_bind, h, Result.andThen_ok, Sem.run_pure]

theorem pureV_ok {P : Program} {ev : Operand → Option Value} {o : Oper} {v : Value} (h : pureV P ev o = some v) (m : Mm) : StillOk P o ev m v := by
  refine StillOk.of_run fun ρ a w hop hr => ?_
  have hat : ∀ x, x ∈ o.op.operands → ∀ u, ev x = some u → VR P ρ u (a.eval x) := fun x hx u hu => hop.at hx hu
  unfold pureV at h
  split at h
  all_goals (rename_i ho; simp only [ho, Op.operands] at hat; unfold execOp; simp only [ho])
  case h_1 x => exact ⟨a.eval x, rfl, hat x (by simp) v h⟩
  case h_2 x => exact ⟨a.eval x, rfl, hat x (by simp) v h⟩
  case h_3 c x y =>
    split at h
    · rename_i t u u' h1 h2 h3
      cases h
      have e1 := hat c (by simp) _ h1
      generalize a.eval c = c' at e1
      cases e1
      cases t
      · exact ⟨a.eval y, rfl, hat y (by simp) _ h3⟩
      · exact ⟨a.eval x, rfl, hat x (by simp) _ h2⟩
    · cases h
  case h_4 x =>
    split at h
    · rename_i b h1
      cases h
      have e1 := hat x (by simp) _ h1
      generalize a.eval x = x' at e1
      cases e1 with
      | ptr hf => exact ⟨_, rfl, .ptr hf⟩
    · cases h
  case h_5 op t x y yt =>
    split at h
    · rename_i u u' h1 h2
      obtain ⟨v', g1, g2⟩ := run_binOp (w := w) (p := x) (q := y) h (hat x (by simp) _ h1) (hat y (by simp) _ h2)
      exact ⟨v', run_value g1, g2⟩
    · cases h
  case h_6 op t x =>
    split at h
    · rename_i u h1
      obtain ⟨v', g1, g2⟩ := run_unOp (w := w) h (hat x (by simp) _ h1)
      exact ⟨v', run_value g1, g2⟩
    · cases h
  case h_7 src dst x =>
    split at h
    · rename_i u h1
      obtain ⟨v', g1, g2⟩ := run_conv (w := w) h (hat x (by simp) _ h1)
      exact ⟨v', run_value g1, g2⟩
    · cases h
  case h_8 t x =>
    split at h
    · rename_i u h1
      have e1 := hat x (by simp) _ h1
      split at h
      · cases h
      · rename_i d h2 h3
        cases h
        refine ⟨.iface t (a.eval x), run_value ?_, .iface t e1⟩
        cases d <;> first
          | (exact (h2 _ rfl).elim)
          | (simp only [Instr.makeInterface, Sem.run_bind, run_underlying h3, Result.andThen_ok, Sem.run_pure])
      · cases h
    · cases h
  case h_9 fn first captured =>
    split at h
    · rename_i xs ys h1 h2
      cases h
      have e1 := (evL_at (ρ := ρ) (P := P) (cv := a.eval) (fun x hx u hu => hat x (by simp; exact .inl (by simpa using hx)) u hu) h1).vrs
      have e2 := (evL_at (ρ := ρ) (P := P) (cv := a.eval) (fun x hx u hu => hat x (by simp; exact .inr (by simpa using hx)) u hu) h2).vrs
      have m1 : (first.toList.map a.eval).toArray = first.map a.eval := by apply Array.ext'; simp
      have m2 : (captured.toList.map a.eval).toArray = captured.map a.eval := by apply Array.ext'; simp
      rw [m1] at e1
      rw [m2] at e2
      exact ⟨_, rfl, .func fn e1.1 e2.1 e1.2 e2.2⟩
    · cases h
  case h_10 t x f =>
    split at h
    · rename_i u h1
      obtain ⟨v', g1, g2⟩ := run_fieldAddrV (w := w) h (hat x (by simp) _ h1)
      exact ⟨v', run_value g1, g2⟩
    · cases h
  case h_11 t x f =>
    split at h
    · rename_i u h1
      obtain ⟨v', g1, g2⟩ := run_fieldV (w := w) h (hat x (by simp) _ h1)
      exact ⟨v', run_value g1, g2⟩
    · cases h
  case h_12 t x i =>
    split at h
    · rename_i u u' h1 h2
      obtain ⟨v', g1, g2⟩ := run_indexAddrV (w := w) h (hat x (by simp) _ h1) (hat i (by simp) _ h2)
      exact ⟨v', run_value g1, g2⟩
    · cases h
  case h_13 t x i =>
    split at h
    · rename_i u u' h1 h2
      obtain ⟨v', g1, g2⟩ := run_indexV (w := w) h (hat x (by simp) _ h1) (hat i (by simp) _ h2)
      exact ⟨v', run_value g1, g2⟩
    · cases h
  case h_14 x i =>
    split at h
    · rename_i u h1
      obtain ⟨v', g1, g2⟩ := run_extractV (P := P) (w := w) h (hat x (by simp) _ h1)
      exact ⟨v', run_value g1, g2⟩
    · cases h
  case h_15 t parts =>
    split at h
    · rename_i ps h1
      have e1 := evP_at (ρ := ρ) (P := P) (cv := a.eval) (fun p hp u hu => hat p.2 (by simp; exact ⟨p.1, by simpa using hp⟩) u hu) h1
      obtain ⟨v', g1, g2⟩ := run_build (w := w) h e1
      refine ⟨v', run_value ?_, g2⟩
      have m1 : (parts.toList.map fun (i, x) => (i, a.eval x)).toArray = parts.map fun (i, x) => (i, a.eval x) := by apply Array.ext'; simp
      rw [← m1]; exact g1
    · cases h
  case h_16 t x lo hi mx =>
    split at h
    · rename_i u l hh mm h1 h2 h3 h4
      obtain ⟨v', g1, g2⟩ := run_sliceV (m := fun _ => none) (w := w) h (hat x (by simp) _ h1) (hr.within fun _ _ h => by cases h) (evO_at (fun y hy u hu => hat y (by subst hy; simp) u hu) h2)
        (evO_at (fun y hy u hu => hat y (by subst hy; simp) u hu) h3) (evO_at (fun y hy u hu => hat y (by subst hy; simp) u hu) h4)
      exact ⟨v', run_value g1, g2⟩
    · cases h
  case h_17 c =>
    split at h
    · rename_i u h1 h2
      split at h
      · rename_i t h3
        have e1 := evL_at (ρ := ρ) (P := P) (cv := a.eval) (fun x hx u hu => hat x (by simp only [Call.operands, h1]; simpa using hx) u hu) h2
        have m1 : (c.args.toList.map a.eval).toArray = c.args.map a.eval := by apply Array.ext'; simp
        generalize c.args.toList.map a.eval = l at e1 m1
        cases e1 with
        | cons e1 e2 =>
          cases e2
          obtain ⟨v', g1, g2⟩ := run_lenV (w := w) (ty := o.type) h e1
          refine ⟨v', ?_, g2⟩
          have ht : c.argTypes = #[t] := by apply Array.ext'; simpa using h3
          simp only [resolve, h1, Sem.run_bind, Sem.run_pure, Result.andThen_ok, invoke, builtin, ht, ← m1]
          rw [g1]; rfl
      · cases h
    · rename_i vs h1 h2
      have e1 := evL_at (ρ := ρ) (P := P) (cv := a.eval) (fun x hx u hu => hat x (by simp only [Call.operands, h1]; simpa using hx) u hu) h2
      have m1 : (c.args.toList.map a.eval).toArray = c.args.map a.eval := by apply Array.ext'; simp
      obtain ⟨v', g1, g2⟩ := run_extremeV (w := w) (ts := c.argTypes) (ty := o.type) h e1
      refine ⟨v', ?_, g2⟩
      simp only [Bool.false_eq_true, if_false] at g1
      simp only [resolve, h1, Sem.run_bind, Sem.run_pure, Result.andThen_ok, invoke, builtin, ← m1]
      rw [g1]; rfl
    · rename_i vs h1 h2
      have e1 := evL_at (ρ := ρ) (P := P) (cv := a.eval) (fun x hx u hu => hat x (by simp only [Call.operands, h1]; simpa using hx) u hu) h2
      have m1 : (c.args.toList.map a.eval).toArray = c.args.map a.eval := by apply Array.ext'; simp
      obtain ⟨v', g1, g2⟩ := run_extremeV (w := w) (ts := c.argTypes) (ty := o.type) h e1
      refine ⟨v', ?_, g2⟩
      simp only [if_true] at g1
      simp only [resolve, h1, Sem.run_bind, Sem.run_pure, Result.andThen_ok, invoke, builtin, ← m1]
      rw [g1]; rfl
    · cases h
  case h_18 => cases h

theorem readV_ok {P : Program} {ev : Operand → Option Value} {o : Oper} {m : Mm} {v : Value} (h : readV P ev m o = some v) : StillOk P o ev m v := by
  unfold readV at h
  split at h
  · rename_i t x ho
    split at h
    · rename_i u h1
      refine StillOk.of_run fun ρ a w hop hr => ?_
      obtain ⟨ad, v', g1, g2, g3⟩ := run_loadVar (w := w) h (hop.at (x := x) (by simp [ho, Op.operands]) h1) hr
      refine ⟨v', ?_, g3⟩
      unfold execOp
      simp only [ho]
      refine run_value ?_
      simp only [Instr.loadAt, g1, Instr.sureAddr, Sem.run_bind, Sem.run_pure, Result.andThen_ok, g2]
    · cases h
  · rename_i t x lo hi mx ho
    split at h
    · rename_i u l hh mm h1 h2 h3 h4
      refine StillOk.of_run fun ρ a w hop hr => ?_
      have hat : ∀ x, x ∈ o.op.operands → ∀ u, ev x = some u → VR P ρ u (a.eval x) := fun x hx u hu => hop.at hx hu
      simp only [ho, Op.operands] at hat
      obtain ⟨v', g1, g2⟩ := run_sliceV (m := m) (w := w) h (hat x (by simp) _ h1) hr (evO_at (fun y hy u hu => hat y (by subst hy; simp) u hu) h2)
        (evO_at (fun y hy u hu => hat y (by subst hy; simp) u hu) h3) (evO_at (fun y hy u hu => hat y (by subst hy; simp) u hu) h4)
      refine ⟨v', ?_, g2⟩
      unfold execOp
      simp only [ho]
      exact run_value g1
    · cases h
  · rename_i src dst x ho
    split at h
    · rename_i u h1
      split at h
      · exact still_markV ho h1 h
      · refine StillOk.of_run fun ρ a w hop hr => ?_
        obtain ⟨v', g1, g2⟩ := run_strV (w := w) h (hop.at (x := x) (by simp [ho, Op.operands]) h1) hr
        refine ⟨v', ?_, g2⟩
        unfold execOp
        simp only [ho]
        exact run_value g1
    · cases h
  · cases h

theorem effV_ok {P : Program} {ev : Operand → Option Value} {M M' : Mem} {o : Oper} {v : Value} (h : effV P ev M o = some (v, M')) : EffOk P o ev M v M' := by
  unfold effV at h
  split at h
  · rename_i t x y ho
    split at h
    · rename_i u u' h1 h2
      split at h
      · rename_i M₁ h3
        cases h
        exact storeE_ok ho h1 h2 h3
      · cases h
    · cases h
  · rename_i c ho
    split at h
    · rename_i p q t tx h1 h2 h3
      split at h
      · rename_i s x h4 h5
        refine appendE_ok (p := p) (q := q) (t := t) (tx := tx) ?_ h4 h5 h
        rw [ho]
        obtain ⟨callee, args, argTypes⟩ := c
        simp only at h1 h2 h3
        subst h1
        have ha : args = #[p, q] := by apply Array.ext'; simpa using h2
        have ht : argTypes = #[t, tx] := by apply Array.ext'; simpa using h3
        rw [ha, ht]
      · cases h
    · cases h
  · cases h

theorem VRs.append {P : Program} {ρ : Emb} {xs xs' ys ys' : Array Value} (h : VRs P ρ xs xs') (h' : VRs P ρ ys ys') : VRs P ρ (xs ++ ys) (xs' ++ ys') := by
  have := (h.vl.append h'.vl).vrs
  have e1 : (xs.toList ++ ys.toList).toArray = xs ++ ys := by apply Array.ext'; simp
  have e2 : (xs'.toList ++ ys'.toList).toArray = xs' ++ ys' := by apply Array.ext'; simp
  rw [e1, e2] at this
  exact this

theorem call_ok {P : Program} {ev : Operand → Option Value} {M M' : Mem} {o : Oper} {v : Value} {f : FuncId} {args : Array Value} (h : callOf P ev o = some (f, args)) (hc : ACall P f args M v M') : EffOk P o ev M v M' := by
  unfold callOf at h
  split at h
  · rename_i c ho
    split at h
    · rename_i g hcal
      split at h
      · rename_i fid first captured vs h1 h2
        cases hcb : callable P fid with
        | false => simp [hcb] at h
        | true =>
          simp only [hcb, cond_true, Option.some.injEq, Prod.mk.injEq] at h
          obtain ⟨rfl, rfl⟩ := h
          intro ρ a w K Q hop hr hf hk
          have hat : ∀ x, x ∈ o.op.operands → ∀ u, ev x = some u → VR P ρ u (a.eval x) := fun x hx u hu => hop.at hx hu
          simp only [ho, Op.operands, Call.operands, hcal] at hat
          have e1 := hat g (by simp) _ h1
          have e2 := (evL_at (ρ := ρ) (P := P) (cv := a.eval) (fun x hx u hu => hat x (by simp; exact .inr (by simpa using hx)) u hu) h2).vrs
          have m1 : (c.args.toList.map a.eval).toArray = c.args.map a.eval := by apply Array.ext'; simp
          rw [m1] at e2
          generalize hg : a.eval g = g' at e1
          cases e1 with
          | func fn hx hy hxx hyy =>
            rename_i first' captured'
            have hargs : VRs P ρ (first ++ vs.toArray ++ captured) (first' ++ c.args.map a.eval ++ captured') := (VRs.append ⟨hx, hxx⟩ e2).append ⟨hy, hyy⟩
            have hrun : (execOp a.eval o).run P w = .ok (.enter fid (first' ++ c.args.map a.eval ++ captured')) w := by
              unfold callable at hcb
              split at hcb
              · rename_i fn' hfn
                simp only [Bool.and_eq_true, Bool.not_eq_true', beq_eq_false_iff_ne, ne_eq] at hcb
                obtain ⟨hb, hnm⟩ := hcb
                have hbn : fn'.body.isNone = false := by cases hh : fn'.body <;> simp_all
                unfold execOp
                simp only [ho, resolve, hcal, hg, Deferred.ofValue, Sem.run_bind, Sem.run_pure, Result.andThen_ok, invoke, callFunc, run_program, hfn]
                rw [if_neg (by simpa using hnm)]
                simp only [hbn, Bool.false_eq_true, if_false, Sem.run_pure]
              · cases hcb
            unfold Oper.wp
            rw [hrun]
            rw [Oper.upon_enter]
            refine (hc ρ w _ hargs hr hf).mono ?_
            rintro e w' ⟨r', ρ', rfl, q1, q2, q3, q4⟩
            · exact hk r' ρ' w' q1 q2 q3 q4
      · cases h
    · cases h
  · cases h
end Go.Proofs.Ythheaehpnleiaaa.AX
