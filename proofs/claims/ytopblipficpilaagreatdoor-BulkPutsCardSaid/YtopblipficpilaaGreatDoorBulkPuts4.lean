/- The layer, twenty-second part: runs that a machine can make by itself: the proof. -/
import Derived.Test.YtopblipficpilaaGreatDoorBulkPuts3
namespace Go.Proofs.YtopblipficpilaaGreatDoor.AY
open Go
set_option linter.unusedVariables false
set_option linter.unusedSimpArgs false

theorem rowOf_mem {f id : Nat} {tab : List Row} {r : Row} (h : rowOf f id tab = some r) : r ∈ tab ∧ r.fn = f := by
  induction tab with
  | nil => cases h
  | cons x l ih =>
    simp only [rowOf] at h
    cases hb : (Nat.beq x.fn f && Nat.beq x.id id) with
    | true =>
      simp only [hb, cond_true, Option.some.injEq] at h; subst h
      rw [Bool.and_eq_true, beq_iff] at hb
      exact ⟨by simp, by simpa using hb.1⟩
    | false => simp only [hb, cond_false] at h; exact ⟨by simp [(ih h).1], (ih h).2⟩

theorem codeOk_off {P : Program} {tab : List Row} {f k : Nat} (h : ∀ r, r ∈ tab → r.fn ≠ f) : ∀ c, codeOk P tab f k c = true := by
  intro c
  induction c with
  | seq a b iha ihb => simp only [codeOk, iha, ihb, Bool.and_self]
  | cond x a b iha ihb => simp only [codeOk, iha, ihb, Bool.and_self]
  | block id b ih => exact ih
  | loop b ih => exact ih
  | scope b ih => exact ih
  | region id ops draw =>
    simp only [codeOk]
    cases draw with
    | false => rfl
    | true =>
      simp only [cond_true]
      cases hr : rowOf f id tab with
      | none => rfl
      | some r => exact absurd (rowOf_mem hr).2 (h r (rowOf_mem hr).1)
  | _ => rfl

theorem codeOk_label {P : Program} {tab : List Row} {f k l : Nat} : ∀ {c rest : Code}, findLabel c l = some rest → codeOk P tab f k c = true → codeOk P tab f k rest = true := by
  intro c
  induction c with
  | seq a b iha ihb =>
    intro rest h hc
    simp only [codeOk, Bool.and_eq_true] at hc
    simp only [findLabel] at h
    split at h
    · rename_i r hr
      cases h
      simp only [codeOk, iha hr hc.1, hc.2, Bool.and_self]
    · exact ihb h hc.2
  | label l' => intro rest h _; simp only [findLabel] at h; split at h <;> first | (cases h; rfl) | (cases h)
  | _ => intro rest h _; cases h
theorem codeOk_of {P : Program} {tab : List Row} (h : progOk P tab = true) {f : Nat} {fn : Func} {c : Code} (hf : P.funcs[f]? = some fn) (hb : fn.body = some c) : codeOk P tab f fn.ntmps c = true := by
  by_cases hm : ∃ r, r ∈ tab ∧ r.fn = f
  · obtain ⟨r, hr, rfl⟩ := hm
    have := List.all_eq_true.1 h r hr
    simpa [hf, hb] using this
  · exact codeOk_off (fun r hr he => hm ⟨r, hr, he⟩) c

theorem Like.res {P : Program} {e : Env} {t : Tr} (h : Like e t) (M : Mem) (d d' : List Dfr) : ∀ rs, resV P ⟨e, M, d⟩ rs = resT P ⟨t, M, d'⟩ rs := by
  intro rs
  induction rs with
  | nil => rfl
  | cons r l ih =>
    cases r with
    | tmp s =>
      simp only [resV, resT, h s, ih]
      generalize resT P _ l = y
      generalize t.get s = x
      cases x <;> cases y <;> rfl
    | cell a ty =>
      simp only [resV, resT, h a, ih]
      generalize resT P _ l = y
      generalize t.get a = x
      cases x with
      | none => rfl
      | some x => simp only; generalize loadV P M.get ty x = z; cases z <;> cases y <;> rfl
theorem Like.args : ∀ (l : List Value) (i : Nat) (e : Env) (t : Tr), Like e t → Like ((l.zipIdx i).foldl (fun e p => e.put (some p.2) p.1) e) (argTr i l t)
  | [], _, _, _, h => h
  | v :: l, i, e, t, h => by simp only [List.zipIdx_cons, List.foldl_cons, argTr]; exact Like.args l (i + 1) _ _ (h.put _ _)
theorem foldl_env_get (l : List Value) : ∀ (i : Nat) (e : Env) (s : Nat) (v : Value), ((l.zipIdx i).foldl (fun e p => e.put (some p.2) p.1) e).get s = some v → (i ≤ s ∧ l[s - i]? = some v) ∨ e.get s = some v := by
  induction l with
  | nil => intro i e s v h; exact .inr h
  | cons u l ih =>
    intro i e s v h
    simp only [List.zipIdx_cons, List.foldl_cons] at h
    rcases ih (i + 1) _ s v h with ⟨h1, h2⟩ | h
    · exact .inl ⟨by omega, by rw [show s - i = (s - (i + 1)) + 1 by omega, List.getElem?_cons_succ]; exact h2⟩
    · rw [Env.get_put] at h
      by_cases hs : i = s
      · subst hs; simp at h; subst h; exact .inl (by simp)
      · simp [hs] at h; exact .inr h
theorem wpS.mono' {P : Program} {ops : Array Oper} {k n0 : Nat} {K K' : Env → Mem → Prop} : ∀ {l : List Oper} {r : Nat} {e : Env} {M : Mem}, wpS P ops k n0 l r e M K → (∀ e M, K e M → K' e M) → wpS P ops k n0 l r e M K' := by
  intro l
  induction l with
  | nil => intro r e M h hk; exact hk _ _ h
  | cons o l ih =>
    intro r e M h hk
    simp only [wpS] at h ⊢
    cases hd : dstLt k o.dst with
    | false => simp [hd] at h
    | true =>
      simp only [hd, cond_true] at h ⊢
      cases hw : wantA ops e o with
      | none => simp [hw] at h
      | some b =>
        cases b with
        | false => simp only [hw] at h ⊢; cases hkd : kindOf P o <;> simp only [hkd] at h ⊢ <;> exact ih h hk
        | true =>
          simp only [hw] at h ⊢
          cases hkd : kindOf P o <;> simp only [hkd] at h ⊢
          case call =>
            split at h
            · obtain ⟨v, M', hc, h⟩ := h; exact ⟨v, M', hc, ih h hk⟩
            · obtain ⟨v, M', h1, h2, h⟩ := h; exact ⟨v, M', h1, h2, ih h hk⟩
          all_goals (split at h <;> first | exact ih h hk | exact h)
theorem wpD.mono' {P : Program} {ops : Array Oper} {k n0 : Nat} {A U : List (Nat × Nat)} {K K' : Env → Mem → Prop} : ∀ {l : List (Nat × Oper)} {r : Nat} {e : Env} {M B : Mem} {al : List (Nat × Nat × Blk)} {log : List (Nat × Mem)} {rl : List (Nat × Oper × Env × Value)},
    wpD P ops k n0 A U l r e M B al log rl K → (∀ e M, K e M → K' e M) → wpD P ops k n0 A U l r e M B al log rl K' := by
  intro l
  induction l with
  | nil => intro r e M B al log rl h hk; exact hk _ _ h
  | cons p l ih =>
    intro r e M B al log rl h hk
    obtain ⟨i, o⟩ := p
    simp only [wpD] at h ⊢
    cases hw : wantA ops e o with
    | none => simp [hw] at h
    | some b =>
      cases b with
      | false => simp only [hw] at h ⊢; cases hkd : kindOf P o <;> simp only [hkd] at h ⊢ <;> first | exact ih h hk | exact ⟨h.1, ih h.2 hk⟩
      | true =>
        simp only [hw] at h ⊢
        cases hkd : kindOf P o <;> simp only [hkd] at h ⊢
        case call =>
          split at h
          · obtain ⟨v, M', hc, h1, h⟩ := h; exact ⟨v, M', hc, h1, ih h hk⟩
          · obtain ⟨v, M', h0, hc, h1, h⟩ := h; exact ⟨v, M', h0, hc, h1, ih h hk⟩
        all_goals (split at h <;> first | exact ih h hk | exact ⟨h.1, ih h.2 hk⟩ | exact h)

theorem retV_of {P : Program} {e : Env} {t : Tr} (h : Like e t) {M : Mem} {d d' : List Dfr} {rs : List ResultVar} {v : Value} (hv : retT P rs ⟨t, M, d⟩ = some v) : retV P rs ⟨e, M, d'⟩ = some v := by
  unfold retV
  rw [h.res M d' d]
  exact hv

theorem xLeave_ok {P : Program} {x : X} (hdf : ∀ f args M M', x.dfc f args M = some M' → ADef P f args M M') {fn : Func} {s : TSt} {v : Value} {M' : Mem} (h : xLeave P x fn.results.toList s = some (v, M')) {e1 : Env} (l1 : Like e1 s.env)
    {k n₀ : Nat} {ρ : Emb} {a : Act} {w : World} (hc : Cur P k n₀ ρ ⟨e1, s.mem, s.dfr⟩ a w) {R : Ending → World → Prop}
    (hR : ∀ v' ρ' w', VR P ρ' v v' → HR P ρ' M'.get w' → Free ρ' M'.next → (∀ ρ₀ M₀ w₀, HR P ρ₀ M₀.get w₀ → w₀.heap.size ≤ n₀ → Grow ρ₀ M₀ w₀ ρ s.mem w → Grow ρ₀ M₀ w₀ ρ' M' w') → R (.returned v') w') :
    LeavesInM (Fw none) 0 P fn a.tmps R a.defers .returning w := by
  unfold xLeave at h
  split at h
  · rename_i hd
    cases hr : retT P fn.results.toList s with
    | none => simp [hr] at h
    | some u =>
      simp only [hr, Option.map_some, Option.some.injEq, Prod.mk.injEq] at h
      obtain ⟨rfl, rfl⟩ := h
      exact leaves_none hc hd (retV_of l1 hr) fun v' hv' => hR v' ρ w hv' hc.hr hc.free fun _ _ _ _ _ hg => hg
  · rename_i hd
    cases hr : retT P fn.results.toList s with
    | none => simp [hr] at h
    | some u =>
      simp only [hr, Option.map_some, Option.some.injEq, Prod.mk.injEq] at h
      obtain ⟨rfl, rfl⟩ := h
      exact leaves_coll hc hd (retV_of l1 hr) fun v' D hn haw hv' => hR v' ρ _ hv' (hc.hr.put_away haw _) hc.free fun _ _ _ _ hle hg => hg.put (Nat.le_trans hle hn) _
  · rename_i f cap hd
    cases hcb : callable P f with
    | false => simp [hcb] at h
    | true =>
      simp only [hcb, cond_true] at h
      split at h
      · rename_i M hM
        cases hr : retT P fn.results.toList ⟨s.env, M, []⟩ with
        | none => simp [hr] at h
        | some u =>
          simp only [hr, Option.map_some, Option.some.injEq, Prod.mk.injEq] at h
          obtain ⟨rfl, rfl⟩ := h
          exact leaves_fn hc hd hcb (hdf _ _ _ _ hM) (retV_of l1 hr) fun v' ρ' w' hv' h1 h2 h3 => hR v' ρ' w' hv' h1 h2 fun _ _ _ h0 _ hg => hg.trans h0 h3
      · cases h
  · cases h

theorem cur_start {P : Program} {k : Nat} {ρ : Emb} {w : World} {M : Mem} {args args' pre : Array Value} (ha : VRs P ρ args args') (hr : HR P ρ M.get w) (hf : Free ρ M.next) (hk : pre.size + args.size ≤ k) :
    Cur P k w.heap.size ρ ⟨(args.toList.zipIdx pre.size).foldl (fun e p => e.put (some p.2) p.1) [], M, []⟩ { tmps := (pre ++ args') ++ Array.replicate (k - (pre ++ args').size) undef, defers := [] } w := by
  have hsz : args'.size = args.size := ha.1.symm
  refine ⟨fun t v ht => ?_, hr, hf, trivial, by simp; omega⟩
  rcases foldl_env_get _ _ _ _ _ ht with ⟨h1, h2⟩ | h2
  · obtain ⟨v', h3, h4⟩ := ha.get (i := t - pre.size) (by simpa using h2)
    have hlt := (Array.getElem?_eq_some_iff.1 h3).1
    refine ⟨v', ?_, h4⟩
    show ((pre ++ args') ++ Array.replicate (k - (pre ++ args').size) undef)[t]? = some v'
    rw [Array.getElem?_append_left (by simp; omega), Array.getElem?_append_right h1]; exact h3
  · simp [Env.get] at h2

theorem X.ok {P : Program} (hmo : P.follows .mixedOrders = true) {tab : List Row} (hok : progOk P tab = true) {ext : ExtF} (hext : ∀ ev M o v, ext ev M o = some v → Known ev o ∧ EffOk P o ev M v M) {ov : CallF} (hov : ∀ f args M v M', ov f args M = some (v, M') → ACall P f args M v M') : ∀ n,
    (∀ f k c s e s', (X.at P tab ext ov n).code f k c s = some (e, s') → codeOk P tab f k c = true → ∀ e0, Like e0 s.env → ∃ e1, ARun P none k c ⟨e0, s.mem, s.dfr⟩ e ⟨e1, s'.mem, s'.dfr⟩ ∧ Like e1 s'.env) ∧
    (∀ f k b s e s', (X.at P tab ext ov n).code f k (.loop b) s = some (e, s') → codeOk P tab f k b = true → ∀ e0, Like e0 s.env → ∃ e1 r, Rounds P none k b r ⟨e0, s.mem, s.dfr⟩ e ⟨e1, s'.mem, s'.dfr⟩ ∧ Like e1 s'.env) ∧
    (∀ f args M v M', (X.at P tab ext ov n).call f args M = some (v, M') → ACall P f args M v M') ∧
    (∀ f lb M M', (X.at P tab ext ov n).seq f lb M = some M' → ASeq P f lb M M') ∧
    (∀ f cap M M', (X.at P tab ext ov n).dfc f cap M = some M' → ADef P f cap M M') ∧
    (∀ f k c d s e s', (X.at P tab ext ov n).sco f k c d s = some (e, s') → codeOk P tab f k c = true → codeOk P tab f k d = true → ∀ e0, Like e0 s.env → ∃ e1, ScRounds P none k c d ⟨e0, s.mem, s.dfr⟩ e ⟨e1, s'.mem, s'.dfr⟩ ∧ Like e1 s'.env) := by
  intro n
  induction n with
  | zero => exact ⟨fun f k c s e s' h => by simp [X.at] at h, fun f k c s e s' h => by simp [X.at] at h, fun f args M v M' h => by simp [X.at] at h, fun f args M M' h => by simp [X.at] at h, fun f args M M' h => by simp [X.at] at h, fun f k c d s e s' h => by simp [X.at] at h⟩
  | succ n ih =>
    obtain ⟨ihc, ihl, ihf, ihs, ihd, ihg⟩ := ih
    have loops : ∀ f k b s e s', (X.at P tab ext ov (n + 1)).code f k (.loop b) s = some (e, s') → codeOk P tab f k b = true → ∀ e0, Like e0 s.env → ∃ e1 r, Rounds P none k b r ⟨e0, s.mem, s.dfr⟩ e ⟨e1, s'.mem, s'.dfr⟩ ∧ Like e1 s'.env := by
      intro f k b s e s' h hco e0 hl
      simp only [X.at] at h
      generalize X.at P tab ext ov n = x at *
      simp only [xCode] at h
      split at h
      · rename_i s₁ h1
        obtain ⟨e1, r1, l1⟩ := ihc f k b s _ _ h1 hco e0 hl
        obtain ⟨e2, r, r2, l2⟩ := ihl f k b s₁ _ _ h hco e1 l1
        exact ⟨e2, _, .more r1 r2, l2⟩
      · rename_i hn
        obtain ⟨e1, r1, l1⟩ := ihc f k b s _ _ h hco e0 hl
        refine ⟨e1, 1, .out r1 ?_, l1⟩
        rintro rfl
        exact hn s' h
    have body : ∀ i f args M v M', xBody P (X.at P tab ext ov n) i f args M = some (v, M') → ∀ ρ w (pre args' : Array Value), pre.size = i → VRs P ρ args args' → HR P ρ M.get w → Free ρ M.next →
        Calls P f (pre ++ args') w fun e w' => ∃ r' ρ', e = .returned r' ∧ VR P ρ' v r' ∧ HR P ρ' M'.get w' ∧ Free ρ' M'.next ∧ Grow ρ M w ρ' M' w' := by
      intro i f args M v M' h ρ w pre args' hpre ha hr hfr
      subst hpre
      generalize X.at P tab ext ov n = x at *
      unfold xBody at h
      split at h
      · rename_i fn hf
        split at h
        · rename_i c hb
          cases hk : decide (pre.size + args.size ≤ fn.ntmps) with
          | false => simp [hk] at h
          | true =>
            simp only [hk, cond_true] at h
            have hk' : pre.size + args.size ≤ fn.ntmps := by simpa using hk
            have hfin : ∀ e s, (e = Exit.normal ∨ e = Exit.ret) → x.code f fn.ntmps c ⟨argTr pre.size args.toList .nil, M, []⟩ = some (e, s) → xLeave P x fn.results.toList s = some (v, M') →
                Calls P f (pre ++ args') w fun e w' => ∃ r' ρ', e = .returned r' ∧ VR P ρ' v r' ∧ HR P ρ' M'.get w' ∧ Free ρ' M'.next ∧ Grow ρ M w ρ' M' w' := by
              intro e s he hx hr'
              have hlk := Like.args args.toList pre.size [] .nil (fun s => rfl)
              obtain ⟨e1, r1, l1⟩ := ihc f fn.ntmps c _ _ _ hx (codeOk_of hok hf hb) _ hlk
              refine (callsIn_wide (n := 0)).1 (callsIn_of_wp_marks (F := Fw none) (n := 0) hf hb trivial (wpIn_mono (r1 w.heap.size ρ _ w (cur_start ha hr hfr hk') (Nat.le_refl _)) ?_))
              rintro x' a' w' ⟨rfl, ρ₀, hc', hg⟩
              have hlv : LeavesInM (Fw none) 0 P fn a'.tmps (fun e w' => ∃ r' ρ', e = .returned r' ∧ VR P ρ' v r' ∧ HR P ρ' M'.get w' ∧ Free ρ' M'.next ∧ Grow ρ M w ρ' M' w') a'.defers .returning w' :=
                xLeave_ok ihd hr' l1 hc' fun v' ρ' w'' h1 h2 h3 h4 => ⟨v', ρ', rfl, h1, h2, h3, h4 ρ M w hr (Nat.le_refl _) hg⟩
              rcases he with rfl | rfl
              · exact hlv
              · exact hlv
            split at h
            · rename_i s hx; exact hfin _ _ (.inl rfl) hx h
            · rename_i s hx; exact hfin _ _ (.inr rfl) hx h
            · cases h
        · cases h
      · cases h
    have plainb : ∀ f args M M', xPlain P (X.at P tab ext ov n) f args M = some M' → ADef P f args M M' := by
      intro f args M M' h ρ w args' u ha hr hfr
      generalize X.at P tab ext ov n = x at *
      unfold xPlain at h
      split at h
      · rename_i fn hf
        split at h
        · rename_i c hb
          cases hk : decide (args.size ≤ fn.ntmps) with
          | false => simp [hk] at h
          | true =>
            simp only [hk, cond_true] at h
            have hk' : (#[] : Array Value).size + args.size ≤ fn.ntmps := by simpa using hk
            have hfin : ∀ e s, (e = Exit.normal ∨ e = Exit.ret) → x.code f fn.ntmps c ⟨argTr 0 args.toList .nil, M, []⟩ = some (e, s) → (bif s.dfr.isEmpty && (retT P fn.results.toList s).isSome then some s.mem else none) = some M' →
                CallsDIn (Fw none) 0 P f args' u w fun e u' w' => u' = u ∧ ∃ v ρ', e = .returned v ∧ HR P ρ' M'.get w' ∧ Free ρ' M'.next ∧ Grow ρ M w ρ' M' w' := by
              intro e s he hx hr'
              cases hq : (s.dfr.isEmpty && (retT P fn.results.toList s).isSome) with
              | false => simp [hq] at hr'
              | true =>
                simp only [hq, cond_true, Option.some.injEq] at hr'
                subst hr'
                simp only [Bool.and_eq_true, List.isEmpty_iff] at hq
                obtain ⟨v, hv⟩ := Option.isSome_iff_exists.1 hq.2
                have hlk := Like.args args.toList 0 [] .nil (fun s => rfl)
                obtain ⟨e1, r1, l1⟩ := ihc f fn.ntmps c _ _ _ hx (codeOk_of hok hf hb) _ hlk
                have hcs := cur_start (pre := #[]) ha hr hfr hk'
                simp only [Array.empty_append] at hcs
                refine callsDIn_of_wp (F := Fw none) (n := 0) (R := fun e w' => ∃ v ρ', e = .returned v ∧ HR P ρ' s.mem.get w' ∧ Free ρ' s.mem.next ∧ Grow ρ M w ρ' s.mem w') hf hb trivial (wpIn_mono (r1 w.heap.size ρ _ w hcs (Nat.le_refl _)) ?_)
                rintro x' a' w' ⟨rfl, ρ₀, hc', hg⟩
                obtain ⟨v', q1, q2⟩ := run_retV hc'.er hc'.hr (retV_of l1 hv)
                have hd0 : a'.defers = [] := by
                  have := hc'.defers
                  rw [show (St.mk e1 s.mem s.dfr).dfr = s.dfr from rfl, hq.1] at this
                  cases hda : a'.defers with
                  | nil => rfl
                  | cons d ds => rw [hda] at this; exact this.elim
                have hfinal : a'.defers = [] ∧ ∃ v, (results fn a'.tmps).run P w' = .ok v w' ∧ ∃ v₁ ρ', Ending.returned v = .returned v₁ ∧ HR P ρ' s.mem.get w' ∧ Free ρ' s.mem.next ∧ Grow ρ M w ρ' s.mem w' :=
                  ⟨hd0, v', q1, v', ρ₀, rfl, hc'.hr, hc'.free, hg⟩
                rcases he with rfl | rfl
                · exact hfinal
                · exact hfinal
            split at h
            · rename_i s hx; exact hfin _ _ (.inl rfl) hx h
            · rename_i s hx; exact hfin _ _ (.inr rfl) hx h
            · cases h
        · cases h
      · cases h
    refine ⟨?_, loops, ?_, ?_, ?_, ?_⟩
    · intro f k c s e s' h hco e0 hl
      have hsv := h
      simp only [X.at] at h
      generalize X.at P tab ext ov n = x at ihc ihl ihf ihs ihd ihg h
      unfold xCode at h
      split at h
      · cases h; exact ⟨e0, ARun.skip, hl⟩
      · cases h; exact ⟨e0, ARun.label, hl⟩
      · cases h; exact ⟨e0, ARun.exit, hl⟩
      · cases h; exact ⟨e0, ARun.ret, hl⟩
      · cases h; exact ⟨e0, ARun.goto, hl⟩
      · rename_i b
        obtain ⟨e1, r1, l1⟩ := ihg f k b b s _ _ h hco hco e0 hl
        exact ⟨e1, ARun.scope r1, l1⟩
      · rename_i a b
        simp only [codeOk, Bool.and_eq_true] at hco
        split at h
        · rename_i s₁ h1
          obtain ⟨e1, r1, l1⟩ := ihc f k a s _ _ h1 hco.1 e0 hl
          obtain ⟨e2, r2, l2⟩ := ihc f k b s₁ _ _ h hco.2 e1 l1
          exact ⟨e2, r1.seq r2, l2⟩
        · rename_i hn
          obtain ⟨e1, r1, l1⟩ := ihc f k a s _ _ h hco.1 e0 hl
          refine ⟨e1, r1.seq_out ?_, l1⟩
          rintro rfl
          exact hn s' h
      · rename_i o a b
        simp only [codeOk, Bool.and_eq_true] at hco
        split at h
        · rename_i t ht
          cases t with
          | true =>
            obtain ⟨e1, r1, l1⟩ := ihc f k a s _ _ h hco.1 e0 hl
            exact ⟨e1, ARun.cond (t := true) (by rw [hl.aev]; exact ht) r1, l1⟩
          | false =>
            obtain ⟨e1, r1, l1⟩ := ihc f k b s _ _ h hco.2 e0 hl
            exact ⟨e1, ARun.cond (t := false) (by rw [hl.aev]; exact ht) r1, l1⟩
        · cases h
      · rename_i id b
        split at h
        · rename_i j s₁ h1
          cases h
          obtain ⟨e1, r1, l1⟩ := ihc f k b s _ _ h1 hco e0 hl
          refine ⟨e1, ARun.block r1 ?_, l1⟩
          simp only [beq_iff, Bool.cond_decide]
        · rename_i hn
          obtain ⟨e1, r1, l1⟩ := ihc f k b s _ _ h hco e0 hl
          refine ⟨e1, ARun.block r1 ?_, l1⟩
          cases e <;> first | rfl | exact absurd h (hn _ _)
      · rename_i b
        obtain ⟨e1, r, r1, l1⟩ := loops f k b s e s' hsv hco e0 hl
        exact ⟨e1, ARun.loop r1, l1⟩
      · rename_i id ops draw
        cases draw with
        | true =>
          simp only [cond_true] at h
          split at h
          · rename_i r hr
            simp only [codeOk, cond_true, hr] at hco
            split at h
            · rename_i t M hx
              cases h
              obtain ⟨x1, s1, q1, q2⟩ := AWP.regionD hmo (r := none) r.ord r.msk r.A r.U (s := ⟨e0, s.mem, s.dfr⟩) (id := id) (Q := fun x s' => x = .normal ∧ Like s'.env t ∧ s'.mem = M ∧ s'.dfr = s.dfr) hco ((xD_ok ihf hext _ _ e0 _ _ _ _ _ [] [] _ _ hl .nil hx).mono' fun e M' h => ⟨rfl, h.1, h.2, rfl⟩)
              obtain ⟨rfl, hl', rfl, hd⟩ := q2
              refine ⟨s1.env, ?_, hl'⟩
              rw [show (⟨s1.env, s1.mem, s.dfr⟩ : St) = s1 by rw [← hd]]
              exact q1
            · cases h
          · cases h
        | false =>
          simp only [cond_false] at h
          split at h
          · split at h
            · rename_i t M hx
              cases h
              obtain ⟨x1, s1, q1, q2⟩ := AWP.region (r := none) (k := k) (id := id) (s := ⟨e0, s.mem, s.dfr⟩) (Q := fun x s' => x = .normal ∧ Like s'.env t ∧ s'.mem = M ∧ s'.dfr = s.dfr) ((xS_ok ihf hext _ _ e0 _ _ _ _ hl hx).mono' fun e M' h => ⟨rfl, h.1, h.2, rfl⟩)
              obtain ⟨rfl, hl', rfl, hd⟩ := q2
              refine ⟨s1.env, ?_, hl'⟩
              rw [show (⟨s1.env, s1.mem, s.dfr⟩ : St) = s1 by rw [← hd]]
              exact q1
            · cases h
          · rename_i l o y hdo
            cases hod : dstLt k o.dst with
            | false => simp [hod] at h
            | true =>
              simp only [hod, cond_true] at h
              split at h
              · rename_i t M hx
                split at h
                · rename_i g xs cap hy
                  cases hxs : xs.isEmpty with
                  | false => simp [hxs] at h
                  | true =>
                    simp only [hxs, cond_true] at h
                    cases h
                    have hxe : xs = #[] := by simpa using hxs
                    subst hxe
                    obtain ⟨e1, M1, ⟨hl1, rfl⟩, hw⟩ := ARun.region_defer (id := id) (s := ⟨e0, s.mem, s.dfr⟩) hdo hod (xS_ok ihf hext _ _ e0 _ _ _ _ hl hx)
                    exact ⟨e1.put o.dst undef, hw _ _ (by rw [hl1.aev]; exact hy), hl1.put _ _⟩
                · cases h
              · cases h
      · rename_i g ps as bd
        split at h
        · rename_i gf xs lb hg
          cases hxs : (xs.isEmpty && callable P gf) with
          | false => simp [hxs] at h
          | true =>
            simp only [hxs, cond_true] at h
            rw [Bool.and_eq_true] at hxs
            have hxe : xs = #[] := by simpa using hxs.1
            subst hxe
            split at h
            · rename_i M hM
              cases h
              exact ⟨e0, ARun.rangeFunc0 (s := ⟨e0, s.mem, s.dfr⟩) (by rw [hl.aev]; exact hg) hxs.2 (ihs _ _ _ _ hM), hl⟩
            · cases h
        · cases h
      · cases h
    · intro f args M v M' h
      simp only [X.at] at h
      split at h
      · rename_i r hr
        cases h
        exact hov _ _ _ _ _ hr
      · intro ρ w args' ha hr hfr
        have := body 0 f args M v M' h ρ w #[] args' rfl ha hr hfr
        simpa using this
    · intro f lb M M' h
      simp only [X.at] at h
      cases hb : xBody P (X.at P tab ext ov n) 1 f lb M with
      | none => simp [hb] at h
      | some r =>
        obtain ⟨v, M1⟩ := r
        simp only [hb, Option.map_some, Option.some.injEq] at h
        subst h
        intro ρ w y lb' ha hr hfr
        refine (body 1 f lb M v M1 hb ρ w #[y] lb' rfl ha hr hfr).mono ?_
        rintro e w' ⟨r', ρ', rfl, h1, h2, h3, h4⟩
        exact ⟨r', ρ', rfl, h2, h3, h4⟩
    · intro f cap M M' h
      simp only [X.at] at h
      exact plainb f cap M M' h
    · intro f k c d s e s' h hco hcd e0 hl
      simp only [X.at] at h
      generalize X.at P tab ext ov n = x at *
      unfold xSco at h
      split at h
      · rename_i l s₁ h1
        split at h
        · rename_i rest hf
          obtain ⟨e1, r1, l1⟩ := ihc f k d s _ _ h1 hcd e0 hl
          obtain ⟨e2, r2, l2⟩ := ihg f k c rest s₁ _ _ h hco (codeOk_label hf hco) e1 l1
          exact ⟨e2, .more r1 hf r2, l2⟩
        · cases h
      · rename_i hn
        obtain ⟨e1, r1, l1⟩ := ihc f k d s _ _ h hcd e0 hl
        refine ⟨e1, .out r1 ?_, l1⟩
        rintro l rfl
        exact hn l s' h

end Go.Proofs.YtopblipficpilaaGreatDoor.AY
