/- The layer: the quick machine: code, bodies, the whole: the proof. -/
import Derived.Test.YtopblipficpilaaGreatDoorBulkSplits12
namespace Go.Proofs.YtopblipficpilaaGreatDoor.AY
open Go
set_option linter.unusedVariables false
set_option linter.unusedSimpArgs false

/-- what a machine's calls come to -/
structure COk (P : Program) (c : CC) : Prop where
  call : ∀ f args M v M', c.call f args M = some (v, M') → ACall P f args.toArray M v M'
  seq : ∀ f lb M M', c.seq f lb M = some M' → ASeq P f lb M M'
  dfc : ∀ f cap M M', c.dfc f cap M = some M' → ADef P f cap M M'
def ExtOk (P : Program) (ext : ExtF) : Prop := ∀ ev M o v, ext ev M o = some v → Known ev o ∧ EffOk P o ev M v M
/-- code that was compiled does what the code does -/
def ZOk (P : Program) (k K : Nat) (code : Code) (z : ZX) : Prop := ∀ c kx t M d x e0, COk P c → Under K e0 t → z.run c kx t M d = some x →
  ∃ e t' M' d' e1, Under K e1 t' ∧ ARun P none k code ⟨e0, M, d⟩ e ⟨e1, M', d'⟩ ∧ kx e t' M' d' = some x
section
variable {P : Program} {tab : List Row} {ext : ExtF} {f k K : Nat}

theorem xNorm_out {y : Ev → Mem → List Dfr → Ans} {kx : KX} {e : Exit} {t : Ev} {M : Mem} {d : List Dfr} (h : e ≠ .normal) : xNorm y kx e t M d = kx e t M d := by
  cases e <;> first | rfl | exact absurd rfl h
theorem seq_ok {a b : Code} {za zb : ZX} (ha : ZOk P k K a za) (hb : ZOk P k K b zb) : ZOk P k K (.seq a b) (xSeq za zb) := by
  intro c kx t M d x e0 hc hu h
  have h : za.run c (xNorm (zb.run c kx) kx) t M d = some x := h
  obtain ⟨e, t1, M1, d1, e1, hu1, r1, h1⟩ := ha _ _ _ _ _ _ _ hc hu h
  by_cases he : e = .normal
  · subst he
    obtain ⟨e', t2, M2, d2, e2, hu2, r2, h2⟩ := hb _ _ _ _ _ _ _ hc hu1 (show zb.run c kx t1 M1 d1 = some x from h1)
    exact ⟨e', t2, M2, d2, e2, hu2, r1.seq r2, h2⟩
  · rw [xNorm_out he] at h1
    exact ⟨e, t1, M1, d1, e1, hu1, r1.seq_out he, h1⟩
theorem cond_ok {x : Operand} {a b : Code} {za zb : ZX} (ha : ZOk P k K a za) (hb : ZOk P k K b zb) : ZOk P k K (.cond x a b) (xCond (zOp [] x) za zb) := by
  intro c kx t M d r e0 hc hu h
  obtain ⟨v, h1, h⟩ := zOp_some (ds := []) (x := x) (st := []) (t := t) h
  have h1 := evS_sub (Loc.nil e0) hu _ _ h1
  rcases vBool_some h with h | ⟨q, rfl, h'⟩
  · cases h
  · cases q with
    | true =>
      obtain ⟨e, t1, M1, d1, e1, hu1, r1, h2⟩ := ha _ _ _ _ _ _ _ hc hu (show za.run c kx t M d = some r from h')
      exact ⟨e, t1, M1, d1, e1, hu1, ARun.cond (t := true) h1 r1, h2⟩
    | false =>
      obtain ⟨e, t1, M1, d1, e1, hu1, r1, h2⟩ := hb _ _ _ _ _ _ _ hc hu (show zb.run c kx t M d = some r from h')
      exact ⟨e, t1, M1, d1, e1, hu1, ARun.cond (t := false) h1 r1, h2⟩
theorem block_ok {id : Nat} {b : Code} {zb : ZX} (hb : ZOk P k K b zb) : ZOk P k K (.block id b) (xBlock id zb) := by
  intro c kx t M d x e0 hc hu h
  obtain ⟨e, t1, M1, d1, e1, hu1, r1, h1⟩ := hb _ _ _ _ _ _ _ hc hu (show zb.run c (xOut id kx) t M d = some x from h)
  cases e with
  | exit j =>
    have h1 : (Bool.rec (motive := fun _ => Ev → Mem → List Dfr → Ans) (kx (.exit j)) (kx .normal) (Nat.beq j id) : Ev → Mem → List Dfr → Ans) t1 M1 d1 = some x := h1
    refine ⟨if j = id then .normal else .exit j, t1, M1, d1, e1, hu1, ARun.block r1 (by simp), ?_⟩
    cases hb : Nat.beq j id with
    | false =>
      rw [hb] at h1
      have : j ≠ id := by rintro rfl; rw [beq_iff] at hb; simp at hb
      rw [if_neg this]; exact h1
    | true => rw [hb] at h1; rw [if_pos (Nat.eq_of_beq_eq_true hb)]; exact h1
  | normal => exact ⟨.normal, t1, M1, d1, e1, hu1, ARun.block r1 rfl, h1⟩
  | goto l => exact ⟨.goto l, t1, M1, d1, e1, hu1, ARun.block r1 rfl, h1⟩
  | ret => exact ⟨.ret, t1, M1, d1, e1, hu1, ARun.block r1 rfl, h1⟩
  | panic p => exact ⟨.panic p, t1, M1, d1, e1, hu1, ARun.block r1 rfl, h1⟩
  | outgrown => exact ⟨.outgrown, t1, M1, d1, e1, hu1, ARun.block r1 rfl, h1⟩
theorem loop_ok {b : Code} {zb : ZX} (n : Nat) (hb : ZOk P k K b zb) : ZOk P k K (.loop b) (xLoop n zb) := by
  intro c kx t M d x e0 hc hu h
  have key : ∀ m t M d e0, Under K e0 t → (Nat.rec (motive := fun _ => Ev → Mem → List Dfr → Ans) (fun _ _ _ => none) (fun _ ih t M d => ZX.rec (motive := fun _ => Ans) (fun f => f c (xNorm ih kx) t M d) zb) m) t M d = some x →
      ∃ e t' M' d' e1 r, Under K e1 t' ∧ Rounds P none k b r ⟨e0, M, d⟩ e ⟨e1, M', d'⟩ ∧ kx e t' M' d' = some x := by
    intro m
    induction m with
    | zero => intro t M d e0 _ h; cases h
    | succ m ih =>
      intro t M d e0 hu h
      obtain ⟨e, t1, M1, d1, e1, hu1, r1, h1⟩ := hb _ _ _ _ _ _ _ hc hu (show zb.run c (xNorm (Nat.rec (motive := fun _ => Ev → Mem → List Dfr → Ans) (fun _ _ _ => none) (fun _ ih t M d => ZX.rec (motive := fun _ => Ans) (fun f => f c (xNorm ih kx) t M d) zb) m) kx) t M d = some x from h)
      by_cases he : e = .normal
      · subst he
        obtain ⟨e', t2, M2, d2, e2, r, hu2, r2, h2⟩ := ih _ _ _ _ hu1 h1
        exact ⟨e', t2, M2, d2, e2, _, hu2, .more r1 r2, h2⟩
      · rw [xNorm_out he] at h1
        exact ⟨e, t1, M1, d1, e1, 1, hu1, .out r1 he, h1⟩
  obtain ⟨e, t1, M1, d1, e1, r, hu1, r1, h1⟩ := key n t M d e0 hu h
  exact ⟨e, t1, M1, d1, e1, hu1, ARun.loop r1, h1⟩
theorem scope_ok {b : Code} {z : Code → ZX} (n : Nat) (hz : ∀ d, codeOk P tab f k d = true → ZOk P k K d (z d)) (hb : codeOk P tab f k b = true) : ZOk P k K (.scope b) (xScope n b z) := by
  intro c kx t M d x e0 hc hu h
  have key : ∀ m cur t M d e0, codeOk P tab f k cur = true → Under K e0 t → (Nat.rec (motive := fun _ => Code → Ev → Mem → List Dfr → Ans) (fun _ _ _ _ => none)
  (fun _ ih cur t M d => ZX.run (z cur) c (fun e t M d => match e with
    | .goto l => match findLabel b l with
      | some rest => ih rest t M d
      | none => none
    | e => kx e t M d) t M d) m) cur t M d = some x → ∃ e t' M' d' e1, Under K e1 t' ∧ ScRounds P none k b cur ⟨e0, M, d⟩ e ⟨e1, M', d'⟩ ∧ kx e t' M' d' = some x := by
    intro m
    induction m with
    | zero => intro cur t M d e0 _ _ h; cases h
    | succ m ih =>
      intro cur t M d e0 hcur hu h
      obtain ⟨e, t1, M1, d1, e1, hu1, r1, h1⟩ := hz cur hcur _ _ _ _ _ _ _ hc hu h
      cases e with
      | goto l =>
        dsimp only at h1
        split at h1
        · rename_i rest hf
          obtain ⟨e', t2, M2, d2, e2, hu2, r2, h2⟩ := ih rest _ _ _ _ (codeOk_label hf hb) hu1 h1
          exact ⟨e', t2, M2, d2, e2, hu2, .more r1 hf r2, h2⟩
        · cases h1
      | normal => exact ⟨_, t1, M1, d1, e1, hu1, .out r1 (by rintro l ⟨⟩), h1⟩
      | exit j => exact ⟨_, t1, M1, d1, e1, hu1, .out r1 (by rintro l ⟨⟩), h1⟩
      | ret => exact ⟨_, t1, M1, d1, e1, hu1, .out r1 (by rintro l ⟨⟩), h1⟩
      | panic p => exact ⟨_, t1, M1, d1, e1, hu1, .out r1 (by rintro l ⟨⟩), h1⟩
      | outgrown => exact ⟨_, t1, M1, d1, e1, hu1, .out r1 (by rintro l ⟨⟩), h1⟩
  obtain ⟨e, t1, M1, d1, e1, hu1, r1, h1⟩ := key n b t M d e0 hb hu h
  exact ⟨e, t1, M1, d1, e1, hu1, ARun.scope r1, h1⟩
theorem range_ok {g : Operand} {ps : Array Tmp} {as bd : Code} : ZOk P k K (.rangeFunc g ps as bd) (xRange P g) := by
  intro c kx t M d x e0 hc hu h
  unfold xRange at h
  dsimp only at h
  split at h
  · rename_i gf xs lb hg
    cases hxs : (xs.isEmpty && callable P gf) with
    | false => simp [hxs] at h
    | true =>
      simp only [hxs, cond_true] at h
      rw [Bool.and_eq_true] at hxs
      have hxe : xs = #[] := by simpa using hxs.1
      subst hxe
      split at h
      · rename_i M' hM
        exact ⟨.normal, t, M', _, e0, hu, ARun.rangeFunc0 (s := ⟨e0, M, d⟩) (evS_sub (Loc.nil e0) hu _ _ hg) hxs.2 (hc.seq _ _ _ _ hM), h⟩
      · cases h
  · cases h
theorem reg_ok (hext : ExtOk P ext) {id : Nat} {ops : Array Oper} : ZOk P k K (.region id ops false) (xReg (nAl P ops.toList) (zList P ext ops k K ops.toList [])) := by
  intro c kx t M d x e0 hc hu h
  have h : (zList P ext ops k K ops.toList []).run c (fun _ _ t M => kx .normal t M d) (M.next + 0) [] t (M.bump (nAl P ops.toList)) = some x := h
  have hw := list_some hc.call hext ops.toList [] 0 [] t _ e0 (Loc.nil e0) hu h
  obtain ⟨x1, s1, q1, q2⟩ := AWP.region (r := none) (k := k) (id := id) (s := ⟨e0, M, d⟩) (Q := fun y s' => y = .normal ∧ s'.dfr = d ∧ ∃ t', Under K s'.env t' ∧ kx .normal t' s'.mem d = some x) (hw.mono' fun e M' ⟨_, _, t', h1, h2⟩ => ⟨rfl, rfl, t', h1, h2⟩)
  obtain ⟨rfl, hd, t', h1, h2⟩ := q2
  refine ⟨.normal, t', s1.mem, d, s1.env, h1, ?_, h2⟩
  rw [show (⟨s1.env, s1.mem, d⟩ : St) = s1 by rw [← hd]]
  exact q1
theorem defer_ok (hext : ExtOk P ext) {id : Nat} {ops : Array Oper} {l : List Oper} {o : Oper} {y : Operand} (hdo : deferOf ops = some (l, o, y)) (hod : dstLt k o.dst = true) : ZOk P k K (.region id ops false) (xDefer K o y (xReg (nAl P l) (zList P ext ops k K l []))) := by
  intro c kx t M d x e0 hc hu h
  have h : (zList P ext ops k K l []).run c (fun _ _ t M => match evS [] [] t y with
    | some (.func (.func g) xs cap) => bif xs.isEmpty then kx .normal (S.run (zDst K o.dst) t undef) M (.fn g cap :: d) else none
    | _ => none) (M.next + 0) [] t (M.bump (nAl P l)) = some x := h
  have hw := list_some hc.call hext l [] 0 [] t _ e0 (Loc.nil e0) hu h
  obtain ⟨e1, M1, ⟨_, _, t1, hu1, h1⟩, hr⟩ := ARun.region_defer (id := id) (s := ⟨e0, M, d⟩) hdo hod hw
  split at h1
  · rename_i g xs cap hy
    cases hxs : xs.isEmpty with
    | false => simp [hxs] at h1
    | true =>
      simp only [hxs, cond_true] at h1
      have hxe : xs = #[] := by simpa using hxs
      subst hxe
      exact ⟨.normal, _, M1, _, _, zDst_put (d := o.dst) (v := undef) hu1, hr g cap (evS_sub (Loc.nil e1) hu1 _ _ hy), h1⟩
  · cases h1
theorem regD_ok (hmo : P.follows .mixedOrders = true) (hext : ExtOk P ext) {id : Nat} {ops : Array Oper} {ord msk : List Nat} (hreg : okReg P k ops ord msk [] [] = true) : ZOk P k K (.region id ops true) (xRegD (nAl P (ord.map fun i => opAt ops i)) (dList P ext ops K ord [])) := by
  intro c kx t M d x e0 hc hu h
  have h : (dList P ext ops K ord []).run c (fun _ _ t M _ => kx .normal t M d) (M.next + 0) [] t (M.bump (nAl P (ord.map fun i => opAt ops i))) (M.bump (nAl P (ord.map fun i => opAt ops i))) = some x := h
  have hw := dlist_some hc.call hext (k := k) ord [] 0 [] t _ _ e0 [] [] [] (Loc.nil e0) hu h
  obtain ⟨x1, s1, q1, q2⟩ := AWP.regionD hmo (r := none) (k := k) (id := id) ord msk [] [] (s := ⟨e0, M, d⟩) (Q := fun y s' => y = .normal ∧ s'.dfr = d ∧ ∃ t', Under K s'.env t' ∧ kx .normal t' s'.mem d = some x) hreg (hw.mono' fun e M' ⟨_, _, t', _, h1, h2⟩ => ⟨rfl, rfl, t', h1, h2⟩)
  obtain ⟨rfl, hd, t', h1, h2⟩ := q2
  refine ⟨.normal, t', s1.mem, d, s1.env, h1, ?_, h2⟩
  rw [show (⟨s1.env, s1.mem, d⟩ : St) = s1 by rw [← hd]]
  exact q1

/-! ### drawn, told slowly -/
inductive HLike (P : Program) : List (Nat × (Mem → Bool)) → List (Nat × Oper × Env × Value) → Prop
  | nil : HLike P [] []
  | cons {i : Nat} {fn : Mem → Bool} {o : Oper} {e : Env} {v : Value} {l : List (Nat × (Mem → Bool))} {m : List (Nat × Oper × Env × Value)} (h : ∀ M, fn M = true → readV P (AY.aev e) M.get o = some v) (h' : HLike P l m) : HLike P ((i, fn) :: l) ((i, o, e, v) :: m)
theorem hRl_ok {U : List (Nat × Nat)} {j : Nat} {M : Mem} {l : List (Nat × (Mem → Bool))} {m : List (Nat × Oper × Env × Value)} (hl : HLike P l m) (h : hRl U j M l = true) : allRl P U j M.get m := by
  induction hl with
  | nil => trivial
  | cons hf _ ih =>
    simp only [hRl, Bool.and_eq_true, Bool.or_eq_true, Bool.not_eq_true'] at h
    refine ⟨fun hp => ?_, ih h.2⟩
    rcases h.1 with h1 | h1
    · rw [hp] at h1; cases h1
    · exact hf _ h1
theorem hRun_ok (hext : ExtOk P ext) {ops : Array Oper} {n0 : Nat} {A U : List (Nat × Nat)} {c : CC} (hc : COk P c) {kk : Ev → Mem → Ans} {x : Value × Mem} : ∀ (l : List Nat) (ds : List (Option Nat)) (r : Nat) (st : List Value) (t : Ev) (M B : Mem) (e : Env) (al : List (Nat × Nat × Blk)) (log : List (Nat × Mem)) (rl : List (Nat × (Mem → Bool))) (rl' : List (Nat × Oper × Env × Value)), Loc ds st e → Under K e t → HLike P rl rl' →
    hRun P ext ops K A U c kk l ds (n0 + r) st t M B al log rl = some x → wpD P ops k n0 A U (l.map fun i => (i, opAt ops i)) r e M B al log rl' fun e' M' => ∃ t', Under K e' t' ∧ kk t' M' = some x := by
  intro l
  induction l with
  | nil => intro ds r st t M B e al log rl rl' hl hu hr h; exact ⟨_, hu, h⟩
  | cons i l ih =>
    intro ds r st t M B e al log rl rl' hl hu hr h
    simp only [hRun, kindZ_eq] at h
    simp only [List.map_cons, wpD]
    generalize opAt ops i = o at h ⊢
    have hs := evS_sub hl hu
    have go := fun (v : Value) => (⟨hl.put o.dst v, zDst_put (d := o.dst) (v := v) hu⟩ : Loc (o.dst :: ds) (v :: st) (e.put o.dst v) ∧ Under K (e.put o.dst v) ((zDst K o.dst).run t v))
    cases hw : wantS ops (evS ds st t) o with
    | none => simp [hw] at h
    | some b =>
      rw [want_sub hs hw]
      cases b with
      | false =>
        simp only [hw] at h ⊢
        cases hk : kindOf P o with
        | alloc => simp only [hk] at h ⊢; exact ih _ _ _ _ _ _ _ _ _ _ _ (go _).1 (go _).2 hr h
        | pure => simp only [hk] at h ⊢; exact ih _ _ _ _ _ _ _ _ _ _ _ (go _).1 (go _).2 hr h
        | read => simp only [hk] at h ⊢; exact ih _ _ _ _ _ _ _ _ _ _ _ (go _).1 (go _).2 hr h
        | eff =>
          simp only [hk] at h ⊢
          cases hx : hRl U i M rl with
          | false => simp [hx] at h
          | true => simp only [hx, cond_true] at h; exact ⟨hRl_ok hr hx, ih _ _ _ _ _ _ _ _ _ _ _ (go _).1 (go _).2 hr h⟩
        | call =>
          simp only [hk] at h ⊢
          cases hx : hRl U i M rl with
          | false => simp [hx] at h
          | true => simp only [hx, cond_true] at h; exact ⟨hRl_ok hr hx, ih _ _ _ _ _ _ _ _ _ _ _ (go _).1 (go _).2 hr h⟩
      | true =>
        simp only [hw] at h ⊢
        cases hk : kindOf P o with
        | pure =>
          simp only [hk] at h ⊢
          split at h
          · rename_i v hv; simp only [pureV_sub hs hv]; exact ih _ _ _ _ _ _ _ _ _ _ _ (go _).1 (go _).2 hr h
          · cases h
        | read =>
          simp only [hk] at h ⊢
          split at h
          · rename_i v hv
            simp only [readV_sub hs hv]
            cases hx : xLog U i (fun B' => isV (readV P (evS ds st t) (withA A al i B'.get) o) v) log with
            | false => simp [hx] at h
            | true =>
              simp only [hx, cond_true] at h
              exact ⟨xLog_ok (fun B hB => readV_sub hs (isV_eq hB)) hx, ih _ _ _ _ _ _ _ _ _ _ _ (go _).1 (go _).2 (.cons (fun M hM => readV_sub hs (isV_eq hM)) hr) h⟩
          · cases h
        | alloc =>
          simp only [hk] at h ⊢
          split at h
          · rename_i bl mk hv
            simp only [allocA_sub hs hv]
            rw [mPut_eq] at h
            exact ih _ (r + 1) _ _ _ _ _ _ _ _ _ (go _).1 (go _).2 hr h
          · cases h
        | eff =>
          simp only [hk] at h ⊢
          split at h
          · rename_i v M₁ hv
            simp only [effV_sub hs hv]
            cases hx : hRl U i M₁ rl with
            | false => simp [hx] at h
            | true => simp only [hx, cond_true] at h; exact ⟨hRl_ok hr hx, ih _ _ _ _ _ _ _ _ _ _ _ (go _).1 (go _).2 hr h⟩
          · cases h
        | call =>
          simp only [hk] at h ⊢
          split at h
          · rename_i f args hv
            simp only [callOf_sub hs hv]
            split at h
            · rename_i v M₁ hcl
              cases hx : hRl U i M₁ rl with
              | false => simp [hx] at h
              | true => simp only [hx, cond_true] at h; exact ⟨v, M₁, hc.call _ _ _ _ _ hcl, hRl_ok hr hx, ih _ _ _ _ _ _ _ _ _ _ _ (go _).1 (go _).2 hr h⟩
            · cases h
          · rename_i hv
            split at h
            · rename_i v hxv
              obtain ⟨h3, h4⟩ := hext _ _ _ _ hxv
              simp only [callOf_none hs h3 hv]
              cases hx : hRl U i M rl with
              | false => simp [hx] at h
              | true => simp only [hx, cond_true] at h; exact ⟨v, M, h3.sub hs, h4.sub hs h3, hRl_ok hr hx, ih _ _ _ _ _ _ _ _ _ _ _ (go _).1 (go _).2 hr h⟩
            · cases h
theorem draw_ok (hmo : P.follows .mixedOrders = true) (hext : ExtOk P ext) {id : Nat} {ops : Array Oper} {r : Row} (hreg : okReg P k ops r.ord r.msk r.A r.U = true) : ZOk P k K (.region id ops true) (xDraw P ext K ops r) := by
  intro c kx t M d x e0 hc hu h
  have h : hRun P ext ops K r.A r.U c (fun t M => kx .normal t M d) r.ord [] (M.next + 0) [] t (M.bump (nAlZ P (r.ord.map fun i => opAt ops i))) (M.bump (nAlZ P (r.ord.map fun i => opAt ops i))) [] [] [] = some x := h
  simp only [nAlZ_eq] at h
  have hw := hRun_ok hext (k := k) hc r.ord [] 0 [] t _ _ e0 [] [] [] [] (Loc.nil e0) hu .nil h
  obtain ⟨x1, s1, q1, q2⟩ := AWP.regionD hmo (r := none) (k := k) (id := id) r.ord r.msk r.A r.U (s := ⟨e0, M, d⟩) (Q := fun y s' => y = .normal ∧ s'.dfr = d ∧ ∃ t', Under K s'.env t' ∧ kx .normal t' s'.mem d = some x) hreg (hw.mono' fun e M' ⟨t', h1, h2⟩ => ⟨rfl, rfl, t', h1, h2⟩)
  obtain ⟨rfl, hd, t', h1, h2⟩ := q2
  refine ⟨.normal, t', s1.mem, d, s1.env, h1, ?_, h2⟩
  rw [show (⟨s1.env, s1.mem, d⟩ : St) = s1 by rw [← hd]]
  exact q1
theorem no_ok {code : Code} : ZOk P k K code xNo := by intro c kx t M d x e0 hc hu h; cases h
theorem region_ok (hmo : P.follows .mixedOrders = true) (hext : ExtOk P ext) {id : Nat} {ops : Array Oper} {draw : Bool} (hco : codeOk P tab f k (.region id ops draw) = true) : ZOk P k K (.region id ops draw) (zRegion P tab ext f k K id ops draw) := by
  unfold zRegion
  simp only [nAlZ_eq, opZ_eq]
  simp only [codeOk] at hco
  cases draw with
  | true =>
    simp only [cond_true] at hco ⊢
    split
    · rename_i r hr
      simp only [hr] at hco
      cases he : (r.A.isEmpty && r.U.isEmpty) with
      | true =>
        simp only [cond_true]
        simp only [Bool.and_eq_true, List.isEmpty_iff] at he
        rw [he.1, he.2] at hco
        exact regD_ok hmo hext hco
      | false => simp only [cond_false]; exact draw_ok hmo hext hco
    · exact no_ok
  | false =>
    simp only [cond_false]
    split
    · exact reg_ok hext
    · rename_i l o y hdo
      cases hod : dstLt k o.dst with
      | false => simp only [cond_false]; exact no_ok
      | true => simp only [cond_true]; exact defer_ok hext hdo hod
theorem code_ok (hmo : P.follows .mixedOrders = true) (hext : ExtOk P ext) {n : Nat} : ∀ (lvl : Nat) (code : Code), codeOk P tab f k code = true → ZOk P k K code (zCode P tab ext n f k K lvl code) := by
  intro lvl
  induction lvl with
  | zero => intro code _; exact no_ok
  | succ lvl ihl =>
    intro code
    induction code with
    | skip => intro _ c kx t M d x e0 hc hu h; exact ⟨.normal, t, M, d, e0, hu, ARun.skip, h⟩
    | label l => intro _ c kx t M d x e0 hc hu h; exact ⟨.normal, t, M, d, e0, hu, ARun.label, h⟩
    | exit id => intro _ c kx t M d x e0 hc hu h; exact ⟨.exit id, t, M, d, e0, hu, ARun.exit, h⟩
    | ret => intro _ c kx t M d x e0 hc hu h; exact ⟨.ret, t, M, d, e0, hu, ARun.ret, h⟩
    | goto l => intro _ c kx t M d x e0 hc hu h; exact ⟨.goto l, t, M, d, e0, hu, ARun.goto, h⟩
    | refuse w => intro _; exact no_ok
    | seq a b iha ihb => intro hco; simp only [codeOk, Bool.and_eq_true] at hco; exact seq_ok (iha hco.1) (ihb hco.2)
    | cond x a b iha ihb => intro hco; simp only [codeOk, Bool.and_eq_true] at hco; exact cond_ok (iha hco.1) (ihb hco.2)
    | block id b ih => intro hco; exact block_ok (ih hco)
    | loop b ih => intro hco; exact loop_ok n (ih hco)
    | scope b ih => intro hco; exact scope_ok n (fun d hd => ihl d hd) hco
    | rangeFunc g ps as bd _ _ => intro _; exact range_ok
    | region id ops draw => intro hco; exact region_ok hmo hext hco
end
end Go.Proofs.YtopblipficpilaaGreatDoor.AY
