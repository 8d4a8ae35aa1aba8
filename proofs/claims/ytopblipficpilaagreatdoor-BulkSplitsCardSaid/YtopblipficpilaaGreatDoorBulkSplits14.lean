/- The layer: the quick machine: bodies, and all of it. -/
import Derived.Test.YtopblipficpilaaGreatDoorBulkSplits13
namespace Go.Proofs.YtopblipficpilaaGreatDoor.AY
open Go
set_option linter.unusedVariables false
set_option linter.unusedSimpArgs false

theorem resE_of {P : Program} {K : Nat} {e : Env} {t : Ev} (hu : Under K e t) {M : Mem} {d : List Dfr} : ∀ {rs : List ResultVar} {vs : List Value}, resE P t M rs = some vs → resV P ⟨e, M, d⟩ rs = some vs := by
  intro rs
  induction rs with
  | nil => intro vs h; exact h
  | cons r l ih =>
    intro vs h
    cases r with
    | tmp s =>
      simp only [resE] at h
      simp only [resV]
      split at h
      · rename_i v us h1 h2; simp only [(hu s v h1).1, ih h2]; exact h
      · cases h
    | cell a ty =>
      simp only [resE] at h
      simp only [resV]
      split at h
      · rename_i x h1
        simp only [(hu a x h1).1]
        split at h
        · rename_i v us h2 h3; simp only [h2, ih h3]; exact h
        · cases h
      · cases h
theorem retE_of {P : Program} {K : Nat} {e : Env} {t : Ev} (hu : Under K e t) {M : Mem} {d : List Dfr} {rs : List ResultVar} {v : Value} (h : retE P rs t M = some v) : retV P rs ⟨e, M, d⟩ = some v := by
  unfold retE at h
  unfold retV
  cases hr : resE P t M rs with
  | none => rw [hr] at h; cases h
  | some vs => rw [hr] at h; rw [resE_of hu hr]; exact h

theorem leaveG_ok {P : Program} {c : CC} (hc : COk P c) {fn : Func} {K : Nat} {t : Ev} {M : Mem} {d : List Dfr} {v : Value} {M' : Mem} (h : leaveG P fn.results.toList c t M d = some (v, M')) {e1 : Env} (hu : Under K e1 t)
    {k n₀ : Nat} {ρ : Emb} {a : Act} {w : World} (hcu : Cur P k n₀ ρ ⟨e1, M, d⟩ a w) {R : Ending → World → Prop}
    (hR : ∀ v' ρ' w', VR P ρ' v v' → HR P ρ' M'.get w' → Free ρ' M'.next → (∀ ρ₀ M₀ w₀, HR P ρ₀ M₀.get w₀ → w₀.heap.size ≤ n₀ → Grow ρ₀ M₀ w₀ ρ M w → Grow ρ₀ M₀ w₀ ρ' M' w') → R (.returned v') w') :
    LeavesInM (Fw none) 0 P fn a.tmps R a.defers .returning w := by
  unfold leaveG at h
  split at h
  · cases hr : retE P fn.results.toList t M with
    | none => simp [hr] at h
    | some u =>
      simp only [hr, Option.map_some, Option.some.injEq, Prod.mk.injEq] at h
      obtain ⟨rfl, rfl⟩ := h
      exact leaves_none hcu rfl (retE_of hu hr) fun v' hv' => hR v' ρ w hv' hcu.hr hcu.free fun _ _ _ _ _ hg => hg
  · cases hr : retE P fn.results.toList t M with
    | none => simp [hr] at h
    | some u =>
      simp only [hr, Option.map_some, Option.some.injEq, Prod.mk.injEq] at h
      obtain ⟨rfl, rfl⟩ := h
      exact leaves_coll hcu rfl (retE_of hu hr) fun v' D hn haw hv' => hR v' ρ _ hv' (hcu.hr.put_away haw _) hcu.free fun _ _ _ _ hle hg => hg.put (Nat.le_trans hle hn) _
  · rename_i f cap
    cases hcb : callable P f with
    | false => simp [hcb] at h
    | true =>
      simp only [hcb, cond_true] at h
      split at h
      · rename_i M₁ hM
        cases hr : retE P fn.results.toList t M₁ with
        | none => simp [hr] at h
        | some u =>
          simp only [hr, Option.map_some, Option.some.injEq, Prod.mk.injEq] at h
          obtain ⟨rfl, rfl⟩ := h
          exact leaves_fn hcu rfl hcb (hc.dfc _ _ _ _ hM) (retE_of hu hr) fun v' ρ' w' hv' h1 h2 h3 => hR v' ρ' w' hv' h1 h2 fun _ _ _ h0 _ hg => hg.trans h0 h3
      · cases h
  · cases h
theorem leave1_eq {P : Program} {c : CC} {r : Nat} {t : Ev} {M : Mem} {d : List Dfr} {x : Value × Mem} (h : leave1 P [.tmp r] (gEnv r) c t M d = some x) : leaveG P [.tmp r] c t M d = some x := by
  cases d with
  | nil =>
    have h : (gEnv r).run [] t (fun v => some (v, M)) = some x := h
    rw [gEnv_eq] at h
    rcases orec_some h with ⟨_, h⟩ | ⟨v, hv, h⟩
    · cases h
    · simp only [leaveG, retE, resE, hv, Option.map_some]; exact h
  | cons y d => exact h
theorem zLeave_eq {P : Program} {rs : List ResultVar} {c : CC} {t : Ev} {M : Mem} {d : List Dfr} {x : Value × Mem} (h : (zLeave P rs).run c t M d = some x) : leaveG P rs c t M d = some x := by
  unfold zLeave at h
  split at h
  · exact leave1_eq h
  · exact h

theorem zArg_under {K : Nat} (hK : ∀ s, s < 0 → K.testBit s = true) : ∀ (l : List Value) (i : Nat) (e : Env) (t : Ev), (∀ s v, t.get s = some v → e.get s = some v) → ∀ s v, (zArg l i t).get s = some v → ((l.zipIdx i).foldl (fun e p => e.put (some p.2) p.1) e).get s = some v
  | [], i, e, t, h => h
  | u :: l, i, e, t, h => by
    have ih := zArg_under hK l (i + 1) (e.put (some i) u) ((sEnv i).run t u) (fun s v hs => by
      rw [sEnv_eq, Ev.get_put] at hs
      rw [Env.get_put]
      by_cases hsi : s = i
      · subst hsi; simp at hs; subst hs; simp
      · simp only [hsi, if_false] at hs; simp [Ne.symm hsi, h s v hs])
    simp only [List.zipIdx_cons, List.foldl_cons]
    exact ih
theorem zArg_bits : ∀ (l : List Value) (i : Nat) (t : Ev) (s : Nat) (v : Value), (zArg l i t).get s = some v → (i ≤ s ∧ s < i + l.length) ∨ t.get s = some v
  | [], i, t, s, v, h => .inr h
  | u :: l, i, t, s, v, h => by
    have h : (zArg l (i + 1) ((sEnv i).run t u)).get s = some v := h
    rcases zArg_bits l (i + 1) _ s v h with h | h
    · exact .inl ⟨by omega, by simp only [List.length_cons]; omega⟩
    · rw [sEnv_eq, Ev.get_put] at h
      by_cases hs : s = i
      · subst hs; exact .inl ⟨Nat.le_refl _, by simp only [List.length_cons]; omega⟩
      · simp only [hs, if_false] at h; exact .inr h
/-- what is handed in is kept -/
def argsKept (K n : Nat) : Bool := (List.range n).all fun s => K.testBit s
theorem start_under {K n i : Nat} {l : List Value} (hK : argsKept K n = true) (hl : i + l.length ≤ n) : Under K ((l.zipIdx i).foldl (fun e p => e.put (some p.2) p.1) []) (zArg l i .nil) := by
  intro s v h
  refine ⟨zArg_under (K := K) (fun s hs => by omega) l i [] .nil (fun s v hs => by rw [Ev.get_nil] at hs; cases hs) s v h, ?_⟩
  rcases zArg_bits l i .nil s v h with ⟨_, h2⟩ | h2
  · exact List.all_eq_true.1 hK s (List.mem_range.2 (by omega))
  · rw [Ev.get_nil] at h2; cases h2

section
variable {P : Program} {tab : List Row} {ext : ExtF}
theorem body_ok (hmo : P.follows .mixedOrders = true) (hext : ExtOk P ext) (hok : progOk P tab = true) {n lvl f i K : Nat} {fn : Func} {code : Code} {c : CC} {l : List Value} {M M' : Mem} {v : Value} (hc : COk P c) (hf : P.funcs[f]? = some fn) (hb : fn.body = some code) {na : Nat} (hn : na ≤ fn.ntmps) (hK : argsKept K na = true)
    (h : zBody na i (zCode P tab ext n f fn.ntmps K lvl code) (zLeave P fn.results.toList) c l M = some (v, M')) : ∀ ρ w (pre args' : Array Value), pre.size = i → VRs P ρ l.toArray args' → HR P ρ M.get w → Free ρ M.next →
        Calls P f (pre ++ args') w fun e w' => ∃ r' ρ', e = .returned r' ∧ VR P ρ' v r' ∧ HR P ρ' M'.get w' ∧ Free ρ' M'.next ∧ Grow ρ M w ρ' M' w' := by
  intro ρ w pre args' hpre ha hr hfr
  subst hpre
  unfold zBody at h
  rcases brec_some h with ⟨_, h⟩ | ⟨hk, h⟩
  · cases h
  · have hk0 : pre.size + l.length ≤ na := Nat.le_of_ble_eq_true hk
    have hk' : pre.size + l.length ≤ fn.ntmps := Nat.le_trans hk0 hn
    have h : (zCode P tab ext n f fn.ntmps K lvl code).run c (atEnd (zLeave P fn.results.toList).run c) (zArg l pre.size .nil) M [] = some (v, M') := h
    obtain ⟨e, t1, M1, d1, e1, hu1, r1, h1⟩ := code_ok hmo hext lvl code (codeOk_of hok hf hb) c _ _ M [] (v, M') _ hc (start_under hK hk0) h
    have hst := cur_start (k := fn.ntmps) (pre := pre) ha hr hfr (by simpa using hk')
    refine (callsIn_wide (n := 0)).1 (callsIn_of_wp_marks (F := Fw none) (n := 0) hf hb trivial (wpIn_mono (r1 w.heap.size ρ _ w hst (Nat.le_refl _)) ?_))
    rintro x' a' w' ⟨rfl, ρ₀, hc', hg⟩
    have hfin : (x' = .normal ∨ x' = .ret) → (zLeave P fn.results.toList).run c t1 M1 d1 = some (v, M') → LeavesInM (Fw none) 0 P fn a'.tmps (fun e w' => ∃ r' ρ', e = .returned r' ∧ VR P ρ' v r' ∧ HR P ρ' M'.get w' ∧ Free ρ' M'.next ∧ Grow ρ M w ρ' M' w') a'.defers .returning w' :=
      fun _ hl => leaveG_ok hc (zLeave_eq hl) hu1 hc' fun v' ρ' w'' h1 h2 h3 h4 => ⟨v', ρ', rfl, h1, h2, h3, h4 ρ M w hr (Nat.le_refl _) hg⟩
    cases x' with
    | normal => exact hfin (.inl rfl) h1
    | ret => exact hfin (.inr rfl) h1
    | _ => cases h1
theorem plain_ok (hmo : P.follows .mixedOrders = true) (hext : ExtOk P ext) (hok : progOk P tab = true) {n lvl f K : Nat} {fn : Func} {code : Code} {c : CC} {l : List Value} {M M' : Mem} {v : Value} (hc : COk P c) (hf : P.funcs[f]? = some fn) (hb : fn.body = some code) {na : Nat} (hn : na ≤ fn.ntmps) (hK : argsKept K na = true)
    (h : zBody na 0 (zCode P tab ext n f fn.ntmps K lvl code) ⟨leaveP P fn.results.toList⟩ c l M = some (v, M')) : ADef P f l.toArray M M' := by
  intro ρ w args' u ha hr hfr
  unfold zBody at h
  rcases brec_some h with ⟨_, h⟩ | ⟨hk, h⟩
  · cases h
  · have hk0 : 0 + l.length ≤ na := Nat.le_of_ble_eq_true hk
    have hk' : 0 + l.length ≤ fn.ntmps := Nat.le_trans hk0 hn
    have h : (zCode P tab ext n f fn.ntmps K lvl code).run c (atEnd (leaveP P fn.results.toList) c) (zArg l 0 .nil) M [] = some (v, M') := h
    obtain ⟨e, t1, M1, d1, e1, hu1, r1, h1⟩ := code_ok hmo hext lvl code (codeOk_of hok hf hb) c _ _ M [] (v, M') _ hc (start_under (i := 0) hK hk0) h
    have hst := cur_start (k := fn.ntmps) (pre := #[]) ha hr hfr (by simpa using hk')
    simp only [Array.empty_append] at hst
    refine callsDIn_of_wp (F := Fw none) (n := 0) (R := fun e w' => ∃ v ρ', e = .returned v ∧ HR P ρ' M'.get w' ∧ Free ρ' M'.next ∧ Grow ρ M w ρ' M' w') hf hb trivial (wpIn_mono (r1 w.heap.size ρ _ w hst (Nat.le_refl _)) ?_)
    rintro x' a' w' ⟨rfl, ρ₀, hc', hg⟩
    have hfin : leaveP P fn.results.toList c t1 M1 d1 = some (v, M') → a'.defers = [] ∧ ∃ v, (results fn a'.tmps).run P w' = .ok v w' ∧ ∃ v₁ ρ', Ending.returned v = .returned v₁ ∧ HR P ρ' M'.get w' ∧ Free ρ' M'.next ∧ Grow ρ M w ρ' M' w' := by
      intro hl
      unfold leaveP at hl
      cases hd : d1.isEmpty with
      | false => simp [hd] at hl
      | true =>
        simp only [hd, cond_true] at hl
        have hd : d1 = [] := List.isEmpty_iff.1 hd
        subst hd
        cases hre : retE P fn.results.toList t1 M1 with
        | none => simp [hre] at hl
        | some u' =>
          simp only [hre, Option.map_some, Option.some.injEq, Prod.mk.injEq] at hl
          obtain ⟨rfl, rfl⟩ := hl
          obtain ⟨v', q1, q2⟩ := run_retV hc'.er hc'.hr (retE_of hu1 hre)
          have hd0 : a'.defers = [] := by
            have := hc'.defers
            cases hda : a'.defers with
            | nil => rfl
            | cons d ds => rw [hda] at this; exact this.elim
          exact ⟨hd0, v', q1, v', ρ₀, rfl, hc'.hr, hc'.free, hg⟩
    cases x' with
    | normal => exact hfin h1
    | ret => exact hfin h1
    | _ => cases h1

/-- each function's arguments have room among what is kept -/
theorem keepOf_args (c : Code) (n : Nat) (rs : List ResultVar) : argsKept (keepOf c n rs) n = true := by
  refine List.all_eq_true.2 fun s hs => ?_
  have hs := List.mem_range.1 hs
  unfold keepOf
  split
  rename_i d dd u _
  simp only [Nat.testBit_or, Nat.testBit_two_pow_sub_one, hs, decide_true, Bool.or_true, Bool.true_or]
theorem mach_ok (hmo : P.follows .mixedOrders = true) (hext : ExtOk P ext) (hok : progOk P tab = true) {ov : Over} (hov : ∀ f g, ov f = some g → ∀ l M v M', g l M = some (v, M') → ACall P f l.toArray M v M') {n lvl : Nat} : ∀ depth, COk P (zMach P tab ext ov n lvl depth) := by
  intro depth
  induction depth with
  | zero => exact ⟨fun f args M v M' h => (by cases h), fun f lb M M' h => (by cases h), fun f cap M M' h => (by cases h)⟩
  | succ depth ih =>
    refine ⟨fun f args M v M' h => ?_, fun f lb M M' h => ?_, fun f cap M M' h => ?_⟩
    · have h : (zFn P tab ext ov n lvl f).call (zMach P tab ext ov n lvl depth) args M = some (v, M') := h
      unfold zFn at h
      split at h
      · rename_i g hg; exact hov f g hg _ _ _ _ h
      · split at h
        · rename_i fn hf
          rw [funZ_eq] at hf
          split at h
          · rename_i code hb
            cases hn : Nat.ble (fn.params.size + fn.nfree) fn.ntmps with
            | false => simp [hn] at h
            | true =>
              simp only [hn, cond_true] at h
              intro ρ w args' ha hr hfr
              have := body_ok hmo hext hok ih hf hb (Nat.le_of_ble_eq_true hn) (keepOf_args _ _ _) h ρ w #[] args' rfl ha hr hfr
              simpa using this
          · cases h
        · cases h
    · have h : ((zFn P tab ext ov n lvl f).seq (zMach P tab ext ov n lvl depth) lb.toList M).map (·.2) = some M' := h
      cases hs : (zFn P tab ext ov n lvl f).seq (zMach P tab ext ov n lvl depth) lb.toList M with
      | none => simp [hs] at h
      | some p =>
        obtain ⟨v, M1⟩ := p
        simp only [hs, Option.map_some, Option.some.injEq] at h
        subst h
        unfold zFn at hs
        split at hs
        · cases hs
        · split at hs
          · rename_i fn hf
            rw [funZ_eq] at hf
            split at hs
            · rename_i code hb
              cases hn : Nat.ble (fn.params.size + fn.nfree) fn.ntmps with
              | false => simp [hn] at hs
              | true =>
                simp only [hn, cond_true] at hs
                intro ρ w y lb' ha hr hfr
                refine (body_ok hmo hext hok ih hf hb (Nat.le_of_ble_eq_true hn) (keepOf_args _ _ _) hs ρ w #[y] lb' rfl (by simpa using ha) hr hfr).mono ?_
                rintro e w' ⟨r', ρ', rfl, h1, h2, h3, h4⟩
                exact ⟨r', ρ', rfl, h2, h3, h4⟩
            · cases hs
          · cases hs
    · have h : ((zFn P tab ext ov n lvl f).dfc (zMach P tab ext ov n lvl depth) cap.toList M).map (·.2) = some M' := h
      cases hs : (zFn P tab ext ov n lvl f).dfc (zMach P tab ext ov n lvl depth) cap.toList M with
      | none => simp [hs] at h
      | some p =>
        obtain ⟨v, M1⟩ := p
        simp only [hs, Option.map_some, Option.some.injEq] at h
        subst h
        unfold zFn at hs
        split at hs
        · cases hs
        · split at hs
          · rename_i fn hf
            rw [funZ_eq] at hf
            split at hs
            · rename_i code hb
              cases hn : Nat.ble (fn.params.size + fn.nfree) fn.ntmps with
              | false => simp [hn] at hs
              | true =>
                simp only [hn, cond_true] at hs
                have := plain_ok hmo hext hok ih hf hb (Nat.le_of_ble_eq_true hn) (keepOf_args _ _ _) hs
                simpa using this
            · cases hs
          · cases hs
end
end Go.Proofs.YtopblipficpilaaGreatDoor.AY
