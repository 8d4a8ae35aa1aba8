/- The layer: the quick machine: more that is known does no harm; regions. -/
import Derived.Test.YtopblipficpilaaGreatDoorBulkSplits11
namespace Go.Proofs.YtopblipficpilaaGreatDoor.AY
open Go
set_option linter.unusedVariables false
set_option linter.unusedSimpArgs false

section
variable {f g : Operand → Option Value}
theorem evL_sub (hs : EvSub f g) : ∀ {l : List Operand} {vs : List Value}, evL f l = some vs → evL g l = some vs
  | [], vs, h => h
  | x :: l, vs, h => by
    simp only [evL] at h ⊢
    split at h
    · rename_i v us h1 h2; simp only [hs _ _ h1, evL_sub hs h2]; exact h
    · cases h
theorem evP_sub (hs : EvSub f g) : ∀ {l : List (Nat × Operand)} {vs : List (Nat × Value)}, evP f l = some vs → evP g l = some vs
  | [], vs, h => h
  | (i, x) :: l, vs, h => by
    simp only [evP] at h ⊢
    split at h
    · rename_i v us h1 h2; simp only [hs _ _ h1, evP_sub hs h2]; exact h
    · cases h
theorem evO_sub (hs : EvSub f g) {x : Option Operand} {r : Option Value} (h : evO f x = some r) : evO g x = some r := by
  cases x with
  | none => exact h
  | some x =>
    simp only [evO] at h ⊢
    cases hx : f x with
    | none => simp [hx] at h
    | some v => rw [hs _ _ hx]; rw [hx] at h; exact h
theorem evL_same (hs : EvSub f g) {l : List Operand} (hk : ∀ x, x ∈ l → ∃ v, f x = some v) : evL g l = evL f l := by
  induction l with
  | nil => rfl
  | cons x l ih =>
    obtain ⟨v, hv⟩ := hk x (by simp)
    simp only [evL, hv, hs _ _ hv]
    rw [ih fun y hy => hk y (by simp [hy])]
theorem pureV_sub (hs : EvSub f g) {P : Program} {o : Oper} {v : Value} (h : pureV P f o = some v) : pureV P g o = some v := by
  unfold pureV at h ⊢
  split at h
  all_goals (rename_i ho)
  case h_1 => exact hs _ _ h
  case h_2 => exact hs _ _ h
  case h_17 =>
    split at h
    · rename_i h1 h2; simp only [h1, evL_sub hs h2]; exact h
    · rename_i h1 h2; simp only [h1, evL_sub hs h2]; exact h
    · rename_i h1 h2; simp only [h1, evL_sub hs h2]; exact h
    · rename_i h1 h2; simp only [h1, evL_sub hs h2]; exact h
    · cases h
  case h_18 => cases h
  all_goals
    split at h <;> first
      | (cases h; done)
      | (rename_i h1 h2 h3 h4; simp only [hs _ _ h1, evO_sub hs h2, evO_sub hs h3, evO_sub hs h4]; exact h)
      | (rename_i h1 h2 h3; simp only [hs _ _ h1, hs _ _ h2, hs _ _ h3]; exact h)
      | (rename_i h1 h2; simp only [hs _ _ h1, hs _ _ h2]; exact h)
      | (rename_i h1 h2; simp only [evL_sub hs h1, evL_sub hs h2]; exact h)
      | (rename_i h1; simp only [evP_sub hs h1]; exact h)
      | (rename_i h1; simp only [hs _ _ h1]; exact h)
theorem readV_sub (hs : EvSub f g) {P : Program} {o : Oper} {m : Mm} {v : Value} (h : readV P f m o = some v) : readV P g m o = some v := by
  unfold readV at h ⊢
  split at h
  all_goals (rename_i ho)
  case h_6 =>
    split at h
    · rename_i h1 h2; simp only [h1, evL_sub hs h2]; exact h
    · cases h
  case h_7 => cases h
  all_goals
    split at h <;> first
      | (cases h; done)
      | (rename_i h1 h2 h3 h4; simp only [hs _ _ h1, evO_sub hs h2, evO_sub hs h3, evO_sub hs h4]; exact h)
      | (rename_i h1 h2; simp only [hs _ _ h1, hs _ _ h2]; exact h)
      | (rename_i h1; simp only [hs _ _ h1]; exact h)
theorem allocA0_sub (hs : EvSub f g) {P : Program} {op : Op} {r : Blk × (Nat → Value)} (h : allocA0 P f op = some r) : allocA0 P g op = some r := by
  unfold allocA0 at h ⊢
  split at h
  case h_1 => exact h
  case h_2 =>
    split at h
    · rename_i h1; simp only [hs _ _ h1]; exact h
    · cases h
  case h_3 =>
    split at h
    · rename_i h1 h2; simp only [h1, evP_sub hs h2]; exact h
    · cases h
  case h_4 =>
    split at h
    · rename_i h1 h2 h3; simp only [h1, hs _ _ h2, hs _ _ h3]; exact h
    · cases h
  case h_5 =>
    split at h
    · rename_i h1 h2 h3; simp only [h1, h2, hs _ _ h3]; exact h
    · cases h
  case h_6 => cases h
theorem allocA_sub (hs : EvSub f g) {P : Program} {op : Op} {r : Blk × (Nat → Value)} (h : allocA P f op = some r) : allocA P g op = some r := by
  unfold allocA at h ⊢
  split at h
  · exact h
  · split at h
    · rename_i h1; simp only [allocA0_sub hs h1]; exact h
    · cases h
theorem effV_sub (hs : EvSub f g) {P : Program} {o : Oper} {M : Mem} {r : Value × Mem} (h : effV P f M o = some r) : effV P g M o = some r := by
  unfold effV at h ⊢
  split at h
  all_goals (rename_i ho)
  case h_1 =>
    split at h
    · rename_i h1 h2; simp only [hs _ _ h1, hs _ _ h2]; exact h
    · cases h
  case h_2 =>
    split at h
    · rename_i h1 h2 h3
      split at h
      · rename_i h4 h5; simp only [hs _ _ h4, hs _ _ h5]; exact h
      · cases h
    · rename_i h1 h2 h3
      split at h
      · rename_i h4 h5; simp only [hs _ _ h4, hs _ _ h5]; exact h
      · cases h
    · rename_i h1 h2 h3
      split at h
      · rename_i h4 h5; simp only [hs _ _ h4, hs _ _ h5]; exact h
      · cases h
    · cases h
  case h_3 =>
    split at h
    · rename_i h1 h2 h3; simp only [hs _ _ h1, hs _ _ h2, hs _ _ h3]; exact h
    · cases h
  case h_4 =>
    split at h
    · rename_i h1 h2; simp only [h1, hs _ _ h2]; exact h
    · cases h
  case h_5 =>
    split at h
    · rename_i h1; simp only [hs _ _ h1]; exact h
    · cases h
  case h_6 => cases h
theorem callOf_sub (hs : EvSub f g) {P : Program} {o : Oper} {r : FuncId × Array Value} (h : callOf P f o = some r) : callOf P g o = some r := by
  unfold callOf at h ⊢
  split at h
  · rename_i cl ho
    split at h
    · rename_i x hc
      split at h
      · rename_i h1 h2; simp only [hs _ _ h1, evL_sub hs h2]; exact h
      · cases h
    · rename_i x n hc
      split at h
      · rename_i h1 h2; simp only [hs _ _ h1, evL_sub hs h2]; exact h
      · cases h
    · cases h
  · cases h
theorem callOf_none (hs : EvSub f g) {P : Program} {o : Oper} (hk : Known f o) (h : callOf P f o = none) : callOf P g o = none := by
  have key : callOf P g o = callOf P f o := by
    unfold callOf
    cases ho : o.op <;> try rfl
    rename_i cl
    simp only [Known, ho, Op.operands, Call.operands] at hk
    cases hc : cl.callee with
    | value x =>
      simp only [hc] at hk ⊢
      obtain ⟨v, hv⟩ := hk x (by simp)
      rw [hv, hs _ _ hv, evL_same hs fun y hy => hk y (by simp; exact .inr (by simpa using hy))]
    | invoke x n =>
      simp only [hc] at hk ⊢
      obtain ⟨v, hv⟩ := hk x (by simp)
      rw [hv, hs _ _ hv, evL_same hs fun y hy => hk y (by simp; exact .inr (by simpa using hy))]
    | builtin b => simp only [hc]
  rw [key]; exact h
theorem Known.sub (hs : EvSub f g) {o : Oper} (hk : Known f o) : Known g o := fun x hx => let ⟨v, hv⟩ := hk x hx; ⟨v, hs _ _ hv⟩
theorem EffOk.sub (hs : EvSub f g) {P : Program} {o : Oper} {M M' : Mem} {v : Value} (hk : Known f o) (h : EffOk P o f M v M') : EffOk P o g M v M' :=
  fun ρ a w K Q ho => h ρ a w K Q fun x hx => by
    obtain ⟨u, h1, h2⟩ := ho x hx
    obtain ⟨v, hv⟩ := hk x hx
    have := hs _ _ hv
    rw [h1] at this; cases this
    exact ⟨u, hv, h2⟩
end

/-- whether a guard lets an operation be done: what is known of it holds -/
theorem want_sub {ops : Array Oper} {o : Oper} {e : Env} {f : Operand → Option Value} (hs : EvSub f (AY.aev e)) {b : Bool} (h : wantS ops f o = some b) : wantA ops e o = some b := by
  unfold wantS at h
  unfold wantA
  cases hg : o.guard with
  | none => simp only [hg] at h ⊢; exact h
  | some jw =>
    obtain ⟨j, w⟩ := jw
    simp only [hg] at h ⊢
    cases hd : (ops[j]?).bind (·.dst) with
    | none => simp only [hd] at h ⊢; exact h
    | some s =>
      simp only [hd] at h ⊢
      cases hv : f (.tmp s) with
      | none => simp [hv] at h
      | some v =>
        have : e.get s = some v := hs (.tmp s) v hv
        rw [hv] at h
        rw [this]
        cases v <;> first | exact h | (cases h; done)

section
variable {P : Program} {ext : ExtF} {c : CC}

/-- an operation that was done, told of the environment -/
def ActsE (P : Program) (o : Oper) (ev : Operand → Option Value) (B M : Mem) (b : Nat) (v : Value) (M' : Mem) (b' : Nat) : Prop := match kindOf P o with
  | .pure => pureV P ev o = some v ∧ M' = M ∧ b' = b
  | .read => readV P ev B.get o = some v ∧ M' = M ∧ b' = b
  | .alloc => ∃ bl mk, allocA P ev o.op = some (bl, mk) ∧ v = mk b ∧ M' = M.put b bl ∧ b' = b + 1
  | .eff => effV P ev M o = some (v, M') ∧ b' = b
  | .call => b' = b ∧ ((∃ f args, callOf P ev o = some (f, args) ∧ ACall P f args M v M') ∨ (callOf P ev o = none ∧ Known ev o ∧ EffOk P o ev M v M'))
theorem Acts.sub (hcall : ∀ f args M v M', c.call f args M = some (v, M') → ACall P f args.toArray M v M') (hext : ∀ ev M o v, ext ev M o = some v → Known ev o ∧ EffOk P o ev M v M) {o : Oper} {f g : Operand → Option Value} (hs : EvSub f g) {B M M' : Mem} {b b' : Nat} {v : Value} (h : Acts P ext c o f B M b v M' b') : ActsE P o g B M b v M' b' := by
  unfold Acts at h
  unfold ActsE
  cases hk : kindOf P o with
  | pure => simp only [hk] at h ⊢; exact ⟨pureV_sub hs h.1, h.2⟩
  | read => simp only [hk] at h ⊢; exact ⟨readV_sub hs h.1, h.2⟩
  | alloc => simp only [hk] at h ⊢; obtain ⟨bl, mk, h1, h2⟩ := h; exact ⟨bl, mk, allocA_sub hs h1, h2⟩
  | eff => simp only [hk] at h ⊢; exact ⟨effV_sub hs h.1, h.2⟩
  | call =>
    simp only [hk] at h ⊢
    obtain ⟨rfl, h⟩ := h
    refine ⟨rfl, ?_⟩
    rcases h with ⟨fn, args, h1, h2⟩ | ⟨h1, h2, rfl⟩
    · exact .inl ⟨fn, args, callOf_sub hs h1, hcall _ _ _ _ _ h2⟩
    · obtain ⟨h3, h4⟩ := hext _ _ _ _ h2
      exact .inr ⟨callOf_none hs h3 h1, h3.sub hs, h4.sub hs h3⟩

/-- what a region's operation comes to -/
def Steps1 (P : Program) (ops : Array Oper) (k : Nat) (o : Oper) (e : Env) (B M : Mem) (b : Nat) (v : Value) (M' : Mem) (b' : Nat) : Prop :=
  (wantA ops e o = some false ∧ v = undef ∧ M' = M ∧ b' = (match kindOf P o with | .alloc => b + 1 | _ => b)) ∨ (wantA ops e o = some true ∧ ActsE P o (AY.aev e) B M b v M' b')

theorem one_some (hcall : ∀ f args M v M', c.call f args M = some (v, M') → ACall P f args.toArray M v M') (hext : ∀ ev M o v, ext ev M o = some v → Known ev o ∧ EffOk P o ev M v M) {ops : Array Oper} {k K : Nat} {ds : List (Option Nat)} {o : Oper} {kk : KT} {b : Nat} {st : List Value} {t : Ev} {M : Mem} {r : Value × Mem} {e : Env} (hl : Loc ds st e) (hu : Under K e t)
    (h : (zOne P ext ops k K ds o).run c kk b st t M = some r) : dstLt k o.dst = true ∧ ∃ v M' b', Steps1 P ops k o e M M b v M' b' ∧ kk b' (v :: st) ((zDst K o.dst).run t v) M' = some r := by
  simp only [← zPut_dst]
  have hs := evS_sub hl hu
  unfold zOne at h
  cases hd : dstLt k o.dst with
  | false => simp only [hd, cond_false] at h; cases h
  | true =>
    refine ⟨rfl, ?_⟩
    simp only [hd, cond_true] at h
    split at h
    · rename_i hg
      obtain ⟨v, M', b', h1, h2⟩ := open_done h
      exact ⟨v, M', b', .inr ⟨by simp [wantA, hg], h1.sub hcall hext hs⟩, h2⟩
    · rename_i g hg
      have h : wantK none ((zOpen P ext ds o (zDst K o.dst)).run c kk b st t M) ((zSkip (isAl P o) (zDst K o.dst)).run c kk b st t M) (wantS ops (evS ds st t) o) = some r := h
      rcases orec_some h with ⟨_, h⟩ | ⟨w, hw, h⟩
      · cases h
      · rcases brec_some h with ⟨rfl, h⟩ | ⟨rfl, h⟩
        · unfold zSkip at h
          dsimp only at h
          rcases brec_some h with ⟨ha, h⟩ | ⟨ha, h⟩
          · refine ⟨undef, M, b, .inl ⟨want_sub hs hw, rfl, rfl, ?_⟩, h⟩
            unfold isAl at ha
            rw [kindZ_eq] at ha
            split at ha
            · cases ha
            · rename_i hna; split
              · rename_i hk; exact absurd hk hna
              · rfl
          · refine ⟨undef, M, b + 1, .inl ⟨want_sub hs hw, rfl, rfl, ?_⟩, h⟩
            unfold isAl at ha
            rw [kindZ_eq] at ha
            split at ha
            · rename_i hk; rw [hk]
            · cases ha
        · obtain ⟨v, M', b', h1, h2⟩ := open_done h
          exact ⟨v, M', b', .inr ⟨want_sub hs hw, h1.sub hcall hext hs⟩, h2⟩

theorem list_some (hcall : ∀ f args M v M', c.call f args M = some (v, M') → ACall P f args.toArray M v M') (hext : ∀ ev M o v, ext ev M o = some v → Known ev o ∧ EffOk P o ev M v M) {ops : Array Oper} {k K n0 : Nat} {kk : KT} {x : Value × Mem} : ∀ (l : List Oper) (ds : List (Option Nat)) (r : Nat) (st : List Value) (t : Ev) (M : Mem) (e : Env), Loc ds st e → Under K e t →
    (zList P ext ops k K l ds).run c kk (n0 + r) st t M = some x → wpS P ops k n0 l r e M fun e' M' => ∃ b' st' t', Under K e' t' ∧ kk b' st' t' M' = some x := by
  intro l
  induction l with
  | nil => intro ds r st t M e hl hu h; exact ⟨_, _, _, hu, h⟩
  | cons o l ih =>
    intro ds r st t M e hl hu h
    have h : (zOne P ext ops k K ds o).run c ((zList P ext ops k K l (o.dst :: ds)).run c kk) (n0 + r) st t M = some x := h
    obtain ⟨hd, v, M', b', hst, h⟩ := one_some hcall hext hl hu h
    have go := fun r' (hb : b' = n0 + r') => ih (o.dst :: ds) r' (v :: st) _ M' _ (hl.put o.dst v) (zDst_put (d := o.dst) (v := v) hu) (by rw [← hb]; exact h)
    simp only [wpS, hd, cond_true]
    rcases hst with ⟨hw, rfl, rfl, hb⟩ | ⟨hw, hst⟩
    · simp only [hw]
      cases hk : kindOf P o <;> simp only [hk] at hb ⊢ <;> first | exact go r hb | exact go (r + 1) (by omega)
    · simp only [hw]
      unfold ActsE at hst
      cases hk : kindOf P o <;> simp only [hk] at hst ⊢
      · obtain ⟨h1, rfl, hb⟩ := hst; simp only [h1]; exact go r hb
      · obtain ⟨h1, rfl, hb⟩ := hst; simp only [h1]; exact go r hb
      · obtain ⟨bl, mk, h1, rfl, rfl, hb⟩ := hst; simp only [h1]; exact go (r + 1) (by omega)
      · obtain ⟨h1, hb⟩ := hst; simp only [h1]; exact go r hb
      · obtain ⟨hb, h1⟩ := hst
        rcases h1 with ⟨f, args, h1, h2⟩ | ⟨h1, h2, h3⟩
        · simp only [h1]; exact ⟨v, M', h2, go r hb⟩
        · simp only [h1]; exact ⟨v, M', h2, h3, go r hb⟩

/-! ### drawn orders -/
def PutOk (s : S) : Prop := ∀ (kk : KT) (b : Nat) (st : List Value) (t : Ev) (M : Mem) (v : Value), zPut s kk b st t M v = kk b (v :: st) (s.run t v) M
theorem dst_putOk (K : Nat) (d : Option Nat) : PutOk (zDst K d) := fun kk b st t M v => zPut_dst
theorem keep_run {f : C} {kk : KD} {b : Nat} {st : List Value} {t : Ev} {M B : Mem} : (dKeep f).run c kk b st t M B = f.run c (fun b st t M => kk b st t M B) b st t M := rfl
theorem eff_run {f : C} {kk : KD} {b : Nat} {st : List Value} {t : Ev} {M B : Mem} : (dEff f).run c kk b st t M B = f.run c (fun b st t M => kk b st t M M) b st t M := rfl
/-- what stands for memory behind the operation -/
def newB (P : Program) (o : Oper) (B M' : Mem) : Mem := match kindOf P o with
  | .eff => M'
  | .call => M'
  | _ => B
theorem dOpen_some (hcall : ∀ f args M v M', c.call f args M = some (v, M') → ACall P f args.toArray M v M') (hext : ∀ ev M o v, ext ev M o = some v → Known ev o ∧ EffOk P o ev M v M) {K : Nat} {ds : List (Option Nat)} {o : Oper} {kk : KD} {b : Nat} {st : List Value} {t : Ev} {M B : Mem} {r : Value × Mem} {e : Env} (hl : Loc ds st e) (hu : Under K e t) (s : S) (hp : PutOk s)
    (h : (dOpen P ext ds o s).run c kk b st t M B = some r) : ∃ v M' b', ActsE P o (AY.aev e) B M b v M' b' ∧ kk b' (v :: st) (s.run t v) M' (newB P o B M') = some r := by
  have hs := evS_sub hl hu
  unfold dOpen at h
  rw [kindZ_eq] at h
  unfold newB
  cases hk : kindOf P o with
  | read =>
    simp only [hk] at h ⊢
    have key : ∃ v, readV P (evS ds st t) B.get o = some v ∧ kk b (v :: st) (s.run t v) M B = some r := by
      unfold dReads at h
      split at h
      · rename_i ty x ho
        obtain ⟨u, h1, h⟩ := zOp_some (ds := ds) (x := x) (st := st) (t := t) h
        obtain ⟨v, h2, h⟩ := zLoad_some (M := B) h
        exact ⟨v, by simp [readV, ho, h1, h2], (hp _ _ _ _ _ _).symm.trans h⟩
      · obtain ⟨v, h1, h2⟩ := oK_none (show oK none (dPut s kk b st t M B) (readV P (evS ds st t) B.get o) = some r from h)
        exact ⟨v, h1, (hp _ _ _ _ _ _).symm.trans h2⟩
    obtain ⟨v, h1, h2⟩ := key
    exact ⟨v, M, b, by simp only [ActsE, hk]; exact ⟨readV_sub hs h1, trivial, trivial⟩, h2⟩
  | pure =>
    simp only [hk] at h ⊢
    rw [keep_run] at h
    obtain ⟨v, M', b', h1, h2⟩ := open_done h
    refine ⟨v, M', b', ?_, (hp _ _ _ _ _ _).symm.trans h2⟩
    have := h1.sub hcall hext hs
    simp only [ActsE, hk] at this ⊢; exact this
  | alloc =>
    simp only [hk] at h ⊢
    rw [keep_run] at h
    obtain ⟨v, M', b', h1, h2⟩ := open_done h
    refine ⟨v, M', b', ?_, (hp _ _ _ _ _ _).symm.trans h2⟩
    have := h1.sub hcall hext hs
    simp only [ActsE, hk] at this ⊢; exact this
  | eff =>
    simp only [hk] at h ⊢
    rw [eff_run] at h
    obtain ⟨v, M', b', h1, h2⟩ := open_done h
    refine ⟨v, M', b', ?_, (hp _ _ _ _ _ _).symm.trans h2⟩
    have := h1.sub hcall hext hs
    simp only [ActsE, hk] at this ⊢; exact this
  | call =>
    simp only [hk] at h ⊢
    rw [eff_run] at h
    obtain ⟨v, M', b', h1, h2⟩ := open_done h
    refine ⟨v, M', b', ?_, (hp _ _ _ _ _ _).symm.trans h2⟩
    have := h1.sub hcall hext hs
    simp only [ActsE, hk] at this ⊢; exact this
theorem dSkip_some {o : Oper} {s : S} (hp : PutOk s) {kk : KD} {b : Nat} {st : List Value} {t : Ev} {M B : Mem} {r : Value × Mem} (h : (dSkip P o s).run c kk b st t M B = some r) :
    kk (match kindOf P o with | .alloc => b + 1 | _ => b) (undef :: st) (s.run t undef) M (newB P o B M) = some r := by
  unfold dSkip at h
  rw [kindZ_eq] at h
  unfold newB
  cases hk : kindOf P o <;> simp only [hk] at h ⊢ <;> exact (hp _ _ _ _ _ _).symm.trans h
theorem dOne_some (hcall : ∀ f args M v M', c.call f args M = some (v, M') → ACall P f args.toArray M v M') (hext : ∀ ev M o v, ext ev M o = some v → Known ev o ∧ EffOk P o ev M v M) {ops : Array Oper} {k K : Nat} {ds : List (Option Nat)} {o : Oper} {kk : KD} {b : Nat} {st : List Value} {t : Ev} {M B : Mem} {r : Value × Mem} {e : Env} (hl : Loc ds st e) (hu : Under K e t)
    (h : (dOne P ext ops K ds o).run c kk b st t M B = some r) : ∃ v M' b', Steps1 P ops k o e B M b v M' b' ∧ kk b' (v :: st) ((zDst K o.dst).run t v) M' (newB P o B M') = some r := by
  have hs := evS_sub hl hu
  unfold dOne at h
  split at h
  · rename_i hg
    obtain ⟨v, M', b', h1, h2⟩ := dOpen_some hcall hext hl hu _ (dst_putOk K o.dst) h
    exact ⟨v, M', b', .inr ⟨by simp [wantA, hg], h1⟩, h2⟩
  · rename_i g hg
    have h : wantK none ((dOpen P ext ds o (zDst K o.dst)).run c kk b st t M B) ((dSkip P o (zDst K o.dst)).run c kk b st t M B) (wantS ops (evS ds st t) o) = some r := h
    rcases orec_some h with ⟨_, h⟩ | ⟨w, hw, h⟩
    · cases h
    · rcases brec_some h with ⟨rfl, h⟩ | ⟨rfl, h⟩
      · have h := dSkip_some (dst_putOk K o.dst) h
        exact ⟨undef, M, _, .inl ⟨want_sub hs hw, rfl, rfl, rfl⟩, h⟩
      · obtain ⟨v, M', b', h1, h2⟩ := dOpen_some hcall hext hl hu _ (dst_putOk K o.dst) h
        exact ⟨v, M', b', .inr ⟨want_sub hs hw, h1⟩, h2⟩

theorem withA_nil (al : List (Nat × Nat × Blk)) (i : Nat) (m : Mm) : withA [] al i m = m := by
  induction al with
  | nil => rfl
  | cons p al ih => obtain ⟨j, id, b⟩ := p; simp only [withA, inP, List.any_nil, cond_false]; exact ih
theorem allLog_nil (i : Nat) (f : Mem → Prop) : ∀ l, allLog [] i f l
  | [] => trivial
  | (j, B) :: l => ⟨fun h => by simp [inP] at h, allLog_nil i f l⟩
theorem allRl_nil (j : Nat) (m : Mm) : ∀ l, allRl P [] j m l
  | [] => trivial
  | (i, o, e, v) :: l => ⟨fun h => by simp [inP] at h, allRl_nil j m l⟩

theorem dlist_some (hcall : ∀ f args M v M', c.call f args M = some (v, M') → ACall P f args.toArray M v M') (hext : ∀ ev M o v, ext ev M o = some v → Known ev o ∧ EffOk P o ev M v M) {ops : Array Oper} {k K n0 : Nat} {kk : KD} {x : Value × Mem} : ∀ (l : List Nat) (ds : List (Option Nat)) (r : Nat) (st : List Value) (t : Ev) (M B : Mem) (e : Env) (al : List (Nat × Nat × Blk)) (log : List (Nat × Mem)) (rl : List (Nat × Oper × Env × Value)), Loc ds st e → Under K e t →
    (dList P ext ops K l ds).run c kk (n0 + r) st t M B = some x → wpD P ops k n0 [] [] (l.map fun i => (i, opAt ops i)) r e M B al log rl fun e' M' => ∃ b' st' t' B', Under K e' t' ∧ kk b' st' t' M' B' = some x := by
  intro l
  induction l with
  | nil => intro ds r st t M B e al log rl hl hu h; exact ⟨_, _, _, _, hu, h⟩
  | cons i l ih =>
    intro ds r st t M B e al log rl hl hu h
    have h : (dOne P ext ops K ds (opZ ops i)).run c ((dList P ext ops K l ((opZ ops i).dst :: ds)).run c kk) (n0 + r) st t M B = some x := h
    rw [opZ_eq] at h
    obtain ⟨v, M', b', hst, h⟩ := dOne_some hcall hext (k := k) hl hu h
    simp only [List.map_cons, wpD]
    generalize opAt ops i = o at h hst ⊢
    have go := fun r' al' log' rl' (hb : b' = n0 + r') => ih (o.dst :: ds) r' (v :: st) _ M' (newB P o B M') _ al' log' rl' (hl.put o.dst v) (zDst_put (d := o.dst) (v := v) hu) (by rw [← hb]; exact h)
    unfold newB at go
    rcases hst with ⟨hw, rfl, rfl, hb⟩ | ⟨hw, hst⟩
    · simp only [hw]
      cases hk : kindOf P o <;> simp only [hk] at hb go ⊢ <;> first | exact go r _ _ _ hb | exact go (r + 1) _ _ _ (by omega) | exact ⟨allRl_nil _ _ _, go r _ _ _ hb⟩
    · simp only [hw]
      unfold ActsE at hst
      cases hk : kindOf P o <;> simp only [hk] at hst go ⊢
      · obtain ⟨h1, rfl, hb⟩ := hst; simp only [h1]; exact go r _ _ _ hb
      · obtain ⟨h1, rfl, hb⟩ := hst; simp only [withA_nil, h1]; exact ⟨allLog_nil _ _ _, go r _ _ _ hb⟩
      · obtain ⟨bl, mk, h1, rfl, rfl, hb⟩ := hst; simp only [h1]; exact go (r + 1) _ _ _ (by omega)
      · obtain ⟨h1, hb⟩ := hst; simp only [h1]; exact ⟨allRl_nil _ _ _, go r _ _ _ hb⟩
      · obtain ⟨hb, h1⟩ := hst
        rcases h1 with ⟨f, args, h1, h2⟩ | ⟨h1, h2, h3⟩
        · simp only [h1]; exact ⟨v, M', h2, allRl_nil _ _ _, go r _ _ _ hb⟩
        · simp only [h1]; exact ⟨v, M', h2, h3, allRl_nil _ _ _, go r _ _ _ hb⟩
end
end Go.Proofs.YtopblipficpilaaGreatDoor.AY
