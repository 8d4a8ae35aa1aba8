/- The layer, twenty-second part: runs that a machine can make by itself: the proof. -/
import Derived.Test.YthheaehpnleiaaaReplyBack3
namespace Go.Proofs.Ythheaehpnleiaaa.AX
open Go
set_option linter.unusedVariables false
set_option linter.unusedSimpArgs false

theorem rowOf_mem {f id : Nat} {tab : List Row} {r : Row} (h : rowOf f id tab = some r) : r ∈ tab ∧ r.fn = f := by
  induction tab with
  | nil => cases h
  | cons x l ih =>
    simp only [rowOf] at h
    cases hb : (Nat.beq x.fn f && Nat.beq x.id id) with
    | true =>
      simp only [hb, cond_true, Option.some.injEq] at h; subst h
      rw [Bool.and_eq_true, beq_iff] at hb
      exact ⟨by simp, by simpa using hb.1⟩
    | false => simp only [hb, cond_false] at h; exact ⟨by simp [(ih h).1], (ih h).2⟩

theorem codeOk_off {P : Program} {tab : List Row} {f k : Nat} (h : ∀ r, r ∈ tab → r.fn ≠ f) : ∀ c, codeOk P tab f k c = true := by
  intro c
  induction c with
  | seq a b iha ihb => simp only [codeOk, iha, ihb, Bool.and_self]
  | cond x a b iha ihb => simp only [codeOk, iha, ihb, Bool.and_self]
  | block id b ih => exact ih
  | loop b ih => exact ih
  | region id ops draw =>
    simp only [codeOk]
    cases draw with
    | false => rfl
    | true =>
      simp only [cond_true]
      cases hr : rowOf f id tab with
      | none => rfl
      | some r => exact absurd (rowOf_mem hr).2 (h r (rowOf_mem hr).1)
  | _ => rfl

theorem codeOk_of {P : Program} {tab : List Row} (h : progOk P tab = true) {f : Nat} {fn : Func} {c : Code} (hf : P.funcs[f]? = some fn) (hb : fn.body = some c) : codeOk P tab f fn.ntmps c = true := by
  by_cases hm : ∃ r, r ∈ tab ∧ r.fn = f
  · obtain ⟨r, hr, rfl⟩ := hm
    have := List.all_eq_true.1 h r hr
    simpa [hf, hb] using this
  · exact codeOk_off (fun r hr he => hm ⟨r, hr, he⟩) c

theorem Like.res {P : Program} {e : Env} {t : Tr} (h : Like e t) (M : Mem) : ∀ rs, resV P ⟨e, M⟩ rs = resT P ⟨t, M⟩ rs := by
  intro rs
  induction rs with
  | nil => rfl
  | cons r l ih =>
    cases r with
    | tmp s =>
      simp only [resV, resT, h s, ih]
      generalize resT P _ l = y
      generalize t.get s = x
      cases x <;> cases y <;> rfl
    | cell a ty =>
      simp only [resV, resT, h a, ih]
      generalize resT P _ l = y
      generalize t.get a = x
      cases x with
      | none => rfl
      | some x => simp only; generalize loadV P M.get ty x = z; cases z <;> cases y <;> rfl
theorem Like.args : ∀ (l : List Value) (i : Nat) (e : Env) (t : Tr), Like e t → Like ((l.zipIdx i).foldl (fun e p => e.put (some p.2) p.1) e) (argTr i l t)
  | [], _, _, _, h => h
  | v :: l, i, e, t, h => by simp only [List.zipIdx_cons, List.foldl_cons, argTr]; exact Like.args l (i + 1) _ _ (h.put _ _)
theorem foldl_env_get (l : List Value) : ∀ (i : Nat) (e : Env) (s : Nat) (v : Value), ((l.zipIdx i).foldl (fun e p => e.put (some p.2) p.1) e).get s = some v → (i ≤ s ∧ l[s - i]? = some v) ∨ e.get s = some v := by
  induction l with
  | nil => intro i e s v h; exact .inr h
  | cons u l ih =>
    intro i e s v h
    simp only [List.zipIdx_cons, List.foldl_cons] at h
    rcases ih (i + 1) _ s v h with ⟨h1, h2⟩ | h
    · exact .inl ⟨by omega, by rw [show s - i = (s - (i + 1)) + 1 by omega, List.getElem?_cons_succ]; exact h2⟩
    · rw [Env.get_put] at h
      by_cases hs : i = s
      · subst hs; simp at h; subst h; exact .inl (by simp)
      · simp [hs] at h; exact .inr h
theorem wpS.mono' {P : Program} {ops : Array Oper} {k n0 : Nat} {K K' : Env → Mem → Prop} : ∀ {l : List Oper} {r : Nat} {e : Env} {M : Mem}, wpS P ops k n0 l r e M K → (∀ e M, K e M → K' e M) → wpS P ops k n0 l r e M K' := by
  intro l
  induction l with
  | nil => intro r e M h hk; exact hk _ _ h
  | cons o l ih =>
    intro r e M h hk
    simp only [wpS] at h ⊢
    cases hd : dstLt k o.dst with
    | false => simp [hd] at h
    | true =>
      simp only [hd, cond_true] at h ⊢
      cases hw : wantA ops e o with
      | none => simp [hw] at h
      | some b =>
        cases b with
        | false => simp only [hw] at h ⊢; cases hkd : kindOf P o <;> simp only [hkd] at h ⊢ <;> exact ih h hk
        | true =>
          simp only [hw] at h ⊢
          cases hkd : kindOf P o <;> simp only [hkd] at h ⊢
          case call =>
            split at h
            · obtain ⟨v, M', hc, h⟩ := h; exact ⟨v, M', hc, ih h hk⟩
            · obtain ⟨v, M', h1, h2, h⟩ := h; exact ⟨v, M', h1, h2, ih h hk⟩
          all_goals (split at h <;> first | exact ih h hk | exact h)
theorem wpD.mono' {P : Program} {ops : Array Oper} {k n0 : Nat} {A U : List (Nat × Nat)} {K K' : Env → Mem → Prop} : ∀ {l : List (Nat × Oper)} {r : Nat} {e : Env} {M B : Mem} {al : List (Nat × Nat × Blk)} {log : List (Nat × Mem)} {rl : List (Nat × Oper × Env × Value)},
    wpD P ops k n0 A U l r e M B al log rl K → (∀ e M, K e M → K' e M) → wpD P ops k n0 A U l r e M B al log rl K' := by
  intro l
  induction l with
  | nil => intro r e M B al log rl h hk; exact hk _ _ h
  | cons p l ih =>
    intro r e M B al log rl h hk
    obtain ⟨i, o⟩ := p
    simp only [wpD] at h ⊢
    cases hw : wantA ops e o with
    | none => simp [hw] at h
    | some b =>
      cases b with
      | false => simp only [hw] at h ⊢; cases hkd : kindOf P o <;> simp only [hkd] at h ⊢ <;> first | exact ih h hk | exact ⟨h.1, ih h.2 hk⟩
      | true =>
        simp only [hw] at h ⊢
        cases hkd : kindOf P o <;> simp only [hkd] at h ⊢
        case call =>
          split at h
          · obtain ⟨v, M', hc, h1, h⟩ := h; exact ⟨v, M', hc, h1, ih h hk⟩
          · obtain ⟨v, M', h0, hc, h1, h⟩ := h; exact ⟨v, M', h0, hc, h1, ih h hk⟩
        all_goals (split at h <;> first | exact ih h hk | exact ⟨h.1, ih h.2 hk⟩ | exact h)

theorem X.ok {P : Program} (hmo : P.follows .mixedOrders = true) {tab : List Row} (hok : progOk P tab = true) {ov : CallF} (hov : ∀ f args M v M', ov f args M = some (v, M') → ACall P f args M v M') : ∀ n,
    (∀ f k c s e s', (X.at P tab ov n).code f k c s = some (e, s') → codeOk P tab f k c = true → ∀ e0, Like e0 s.env → ∃ e1, ARun P k c ⟨e0, s.mem⟩ e ⟨e1, s'.mem⟩ ∧ Like e1 s'.env) ∧
    (∀ f k b s e s', (X.at P tab ov n).code f k (.loop b) s = some (e, s') → codeOk P tab f k b = true → ∀ e0, Like e0 s.env → ∃ e1 r, Rounds P k b r ⟨e0, s.mem⟩ e ⟨e1, s'.mem⟩ ∧ Like e1 s'.env) ∧
    (∀ f args M v M', (X.at P tab ov n).call f args M = some (v, M') → ACall P f args M v M') := by
  intro n
  induction n with
  | zero => exact ⟨fun f k c s e s' h => by simp [X.at] at h, fun f k c s e s' h => by simp [X.at] at h, fun f args M v M' h => by simp [X.at] at h⟩
  | succ n ih =>
    obtain ⟨ihc, ihl, ihf⟩ := ih
    have loops : ∀ f k b s e s', (X.at P tab ov (n + 1)).code f k (.loop b) s = some (e, s') → codeOk P tab f k b = true → ∀ e0, Like e0 s.env → ∃ e1 r, Rounds P k b r ⟨e0, s.mem⟩ e ⟨e1, s'.mem⟩ ∧ Like e1 s'.env := by
      intro f k b s e s' h hco e0 hl
      simp only [X.at] at h
      generalize X.at P tab ov n = x at *
      simp only [xCode] at h
      split at h
      · rename_i s₁ h1
        obtain ⟨e1, r1, l1⟩ := ihc f k b s _ _ h1 hco e0 hl
        obtain ⟨e2, r, r2, l2⟩ := ihl f k b s₁ _ _ h hco e1 l1
        exact ⟨e2, _, .more r1 r2, l2⟩
      · rename_i hn
        obtain ⟨e1, r1, l1⟩ := ihc f k b s _ _ h hco e0 hl
        refine ⟨e1, 1, .out r1 ?_, l1⟩
        rintro rfl
        exact hn s' h
    refine ⟨?_, loops, ?_⟩
    · intro f k c s e s' h hco e0 hl
      have hsv := h
      simp only [X.at] at h
      generalize X.at P tab ov n = x at ihc ihl ihf h
      unfold xCode at h
      split at h
      · cases h; exact ⟨e0, ARun.skip, hl⟩
      · cases h; exact ⟨e0, ARun.label, hl⟩
      · cases h; exact ⟨e0, ARun.exit, hl⟩
      · cases h; exact ⟨e0, ARun.ret, hl⟩
      · rename_i a b
        simp only [codeOk, Bool.and_eq_true] at hco
        split at h
        · rename_i s₁ h1
          obtain ⟨e1, r1, l1⟩ := ihc f k a s _ _ h1 hco.1 e0 hl
          obtain ⟨e2, r2, l2⟩ := ihc f k b s₁ _ _ h hco.2 e1 l1
          exact ⟨e2, r1.seq r2, l2⟩
        · rename_i hn
          obtain ⟨e1, r1, l1⟩ := ihc f k a s _ _ h hco.1 e0 hl
          refine ⟨e1, r1.seq_out ?_, l1⟩
          rintro rfl
          exact hn s' h
      · rename_i o a b
        simp only [codeOk, Bool.and_eq_true] at hco
        split at h
        · rename_i t ht
          cases t with
          | true =>
            obtain ⟨e1, r1, l1⟩ := ihc f k a s _ _ h hco.1 e0 hl
            exact ⟨e1, ARun.cond (t := true) (by rw [hl.aev]; exact ht) r1, l1⟩
          | false =>
            obtain ⟨e1, r1, l1⟩ := ihc f k b s _ _ h hco.2 e0 hl
            exact ⟨e1, ARun.cond (t := false) (by rw [hl.aev]; exact ht) r1, l1⟩
        · cases h
      · rename_i id b
        split at h
        · rename_i j s₁ h1
          cases h
          obtain ⟨e1, r1, l1⟩ := ihc f k b s _ _ h1 hco e0 hl
          refine ⟨e1, ARun.block r1 ?_, l1⟩
          simp only [beq_iff, Bool.cond_decide]
        · rename_i hn
          obtain ⟨e1, r1, l1⟩ := ihc f k b s _ _ h hco e0 hl
          refine ⟨e1, ARun.block r1 ?_, l1⟩
          cases e <;> first | rfl | exact absurd h (hn _ _)
      · rename_i b
        obtain ⟨e1, r, r1, l1⟩ := loops f k b s e s' hsv hco e0 hl
        exact ⟨e1, ARun.loop r1, l1⟩
      · rename_i id ops draw
        cases draw with
        | true =>
          simp only [cond_true] at h
          split at h
          · rename_i r hr
            simp only [codeOk, cond_true, hr] at hco
            split at h
            · rename_i t M hx
              cases h
              obtain ⟨x1, s1, q1, q2⟩ := AWP.regionD hmo r.ord r.msk r.A r.U (s := ⟨e0, s.mem⟩) (id := id) (Q := fun x s' => x = .normal ∧ Like s'.env t ∧ s'.mem = M) hco ((xD_ok ihf _ _ e0 _ _ _ _ _ [] [] _ _ hl .nil hx).mono' fun e M' h => ⟨rfl, h.1, h.2⟩)
              obtain ⟨rfl, hl', rfl⟩ := q2
              exact ⟨s1.env, q1, hl'⟩
            · cases h
          · cases h
        | false =>
          simp only [cond_false] at h
          split at h
          · rename_i t M hx
            cases h
            obtain ⟨x1, s1, q1, q2⟩ := AWP.region (k := k) (id := id) (s := ⟨e0, s.mem⟩) (Q := fun x s' => x = .normal ∧ Like s'.env t ∧ s'.mem = M) ((xS_ok ihf _ _ e0 _ _ _ _ hl hx).mono' fun e M' h => ⟨rfl, h.1, h.2⟩)
            obtain ⟨rfl, hl', rfl⟩ := q2
            exact ⟨s1.env, q1, hl'⟩
          · cases h
      · cases h
    · intro f args M v M' h
      simp only [X.at] at h
      generalize X.at P tab ov n = x at *
      split at h
      · rename_i r hr
        cases h
        exact hov _ _ _ _ _ hr
      unfold xCall at h
      split at h
      · rename_i fn hf
        split at h
        · rename_i c hb
          cases hk : decide (args.size ≤ fn.ntmps) with
          | false => simp [hk] at h
          | true =>
            simp only [hk, cond_true] at h
            have hk' : args.toList.length ≤ fn.ntmps := by simpa using hk
            have hfin : ∀ e s, (e = Exit.normal ∨ e = Exit.ret) → x.code f fn.ntmps c ⟨argTr 0 args.toList .nil, M⟩ = some (e, s) → (retT P fn.results.toList s).map (fun v => (v, s.mem)) = some (v, M') → ACall P f args M v M' := by
              intro e s he hx hr
              cases hrt : retT P fn.results.toList s with
              | none => simp [hrt] at hr
              | some u =>
                simp only [hrt, Option.map_some, Option.some.injEq, Prod.mk.injEq] at hr
                obtain ⟨rfl, rfl⟩ := hr
                have hlk := Like.args args.toList 0 [] .nil (fun s => rfl)
                obtain ⟨e1, r1, l1⟩ := ihc f fn.ntmps c _ _ _ hx (codeOk_of hok hf hb) _ hlk
                intro ρ w args' ha hr' hfr
                have hret : retV P fn.results.toList ⟨e1, s.mem⟩ = some u := by
                  unfold retV
                  rw [l1.res s.mem]
                  exact hrt
                have hsz : args'.size = args.size := ha.1.symm
                have hcur : Cur P fn.ntmps ρ ⟨(args.toList.zipIdx 0).foldl (fun e p => e.put (some p.2) p.1) [], M⟩ { tmps := args' ++ Array.replicate (fn.ntmps - args'.size) undef, defers := [] } w := by
                  refine ⟨fun t v ht => ?_, hr', hfr, rfl, by simp at hk' ⊢; omega⟩
                  rcases foldl_env_get _ _ _ _ _ ht with ⟨_, h2⟩ | h2
                  · simp at h2
                    obtain ⟨v', h3, h4⟩ := ha.get (i := t) (by simpa using h2)
                    have hlt := (Array.getElem?_eq_some_iff.1 h3).1
                    exact ⟨v', by rw [Array.getElem?_append_left hlt]; exact h3, h4⟩
                  · simp [Env.get] at h2
                refine calls_of_wp hf hb (wp_mono (r1 ρ _ w hcur) ?_)
                rintro x' a' w' ⟨rfl, ρ₀, hc', hg⟩
                · obtain ⟨r', e1, e2⟩ := run_retV hc' hret
                  rcases he with rfl | rfl
                  · exact ⟨hc'.defers, r', e1, ⟨r', ρ₀, rfl, e2, hc'.hr, hc'.free, hg⟩⟩
                  · exact ⟨hc'.defers, r', e1, ⟨r', ρ₀, rfl, e2, hc'.hr, hc'.free, hg⟩⟩
            split at h
            · rename_i s hx; exact hfin _ _ (.inl rfl) hx h
            · rename_i s hx; exact hfin _ _ (.inr rfl) hx h
            · cases h
        · cases h
      · cases h

/-- a run from no memory serves from any, where its value names none -/
theorem ACall.closed {P : Program} {f : FuncId} {r : Value} {M' : Mem} (h : ACall P f #[] ⟨0, .nil⟩ r M') (hp : plain r = true) (M : Mem) : ACall P f #[] M r M := by
  intro ρ w args' ha hr hf
  have hempty : HR P (fun _ => none) (Mem.get ⟨0, .nil⟩) w := ⟨fun i b hi => (by cases hi), fun i j bi bj fi fj _ hi => (by cases hi)⟩
  refine (h (fun _ => none) w args' ⟨ha.1, fun i v v' hv => by simp at hv⟩ hempty (fun _ _ => rfl)).mono ?_
  rintro e w' ⟨r', ρ', rfl, h1, h2, h3, h4⟩
  · have hheap : ∀ B, B < w.heap.size → w'.heap[B]? = w.heap[B]? := fun B hB => h4.ext.heap B hB fun ⟨i, b, g, hi, _⟩ => by cases hi
    refine ⟨r', ρ, rfl, ?_, ⟨fun i b hi => ?_, hr.apart⟩, hf, ⟨⟨Sub.refl ρ, h4.ext.size, fun B hB _ => hheap B hB, fun i g hi hg => (by rw [hi] at hg; cases hg), fun i b' hi => .inl ⟨b', hi, fun h => h⟩, h4.ext.io⟩, fun _ _ h => h, Nat.le_refl _⟩⟩
    · have hsame : r' = r := by
        cases h1 <;> first | rfl | (simp [plain] at hp)
      rw [hsame]; exact plain_self hp
    · obtain ⟨g, hg, ho⟩ := hr.one i b hi
      exact ⟨g, hg, ho.mono (Sub.refl ρ) (hheap g.blk ho.lt)⟩
end Go.Proofs.Ythheaehpnleiaaa.AX
