/- The layer, twenty-fourth part: rows of cells: read, and grown by appends. -/
import Derived.Test.YthheaehpnleiaaaAxW
import Derived.IntWalk
namespace Go.Proofs.Ythheaehpnleiaaa.AX
open Go
set_option linter.unusedVariables false
set_option linter.unusedSimpArgs false

/-! ### blocks that stay -/
/-- a block stands there -/
def Has (M : Mem) (i : Nat) (b : Blk) : Prop := M.get i = some b ∧ i < M.next
/-- no block stands where none was made -/
def Ok (M : Mem) : Prop := ∀ i b, M.get i = some b → i < M.next
/-- a memory that grew from another one -/
structure Grew (M M1 : Mem) : Prop where
  keep : ∀ i, i < M.next → M1.get i = M.get i
  next : M.next ≤ M1.next
  ok : Ok M → Ok M1
theorem Grew.refl (M : Mem) : Grew M M := ⟨fun _ _ => rfl, Nat.le_refl _, id⟩
theorem Grew.trans {M M1 M2 : Mem} (h : Grew M M1) (h' : Grew M1 M2) : Grew M M2 := ⟨fun i hi => (h'.keep i (Nat.lt_of_lt_of_le hi h.next)).trans (h.keep i hi), Nat.le_trans h.next h'.next, fun hok => h'.ok (h.ok hok)⟩
theorem Grew.within {M M1 : Mem} (h : Grew M M1) (hw : Ok M) : Within M.get M1.get := fun i b hi => by rw [h.keep i (hw i b hi)]; exact hi
theorem Grew.put {M M1 : Mem} (h : Grew M M1) {i : Nat} (hi : M.next ≤ i) (hi' : i < M1.next) (b : Blk) : Grew M (M1.put i b) := ⟨fun j hj => by rw [Mem.get_put, if_neg (by omega)]; exact h.keep j hj, h.next, fun hok j b' hj => by
  rw [Mem.get_put] at hj
  by_cases hji : j = i
  · rw [hji]; exact hi'
  · rw [if_neg hji] at hj; exact h.ok hok j b' hj⟩
theorem Grew.del {M M1 : Mem} (h : Grew M M1) {i : Nat} (hi : M.next ≤ i) : Grew M (M1.del i) := ⟨fun j hj => by rw [Mem.get_del, if_neg (by omega)]; exact h.keep j hj, h.next, fun hok j b' hj => by
  rw [Mem.get_del] at hj
  by_cases hji : j = i
  · rw [if_pos hji] at hj; cases hj
  · rw [if_neg hji] at hj; exact h.ok hok j b' hj⟩
theorem Grew.bump {M M1 : Mem} (h : Grew M M1) (k : Nat) : Grew M (M1.bump k) := ⟨h.keep, Nat.le_trans h.next (Nat.le_add_right _ _), fun hok j b' hj => Nat.lt_of_lt_of_le (h.ok hok j b' hj) (Nat.le_add_right _ _)⟩
theorem Has.grew {M M1 : Mem} {i : Nat} {b : Blk} (h : Has M i b) (hg : Grew M M1) : Has M1 i b := ⟨(hg.keep i h.2).trans h.1, Nat.lt_of_lt_of_le h.2 hg.next⟩

/-- a row that can be read: so many elements, these cells -/
def Row_ (M : Mem) (v : Value) (n : Nat) (cells : List Value) : Prop :=
  (n = 0 ∧ cells = [] ∧ (v = .slice none 0 0 ∨ ∃ b o c, v = .slice (some ⟨b, o, none⟩) 0 c)) ∨ ∃ b o c blk, v = .slice (some ⟨b, o, none⟩) n c ∧ Has M b blk ∧ o + cells.length ≤ blk.cells.length ∧ (blk.cells.drop o).take cells.length = cells
theorem Row_.grew {M M1 : Mem} {v : Value} {n : Nat} {cells : List Value} (h : Row_ M v n cells) (hg : Grew M M1) : Row_ M1 v n cells := by
  rcases h with h | ⟨b, o, c, blk, h1, h2, h3⟩
  · exact .inl h
  · exact .inr ⟨b, o, c, blk, h1, h2.grew hg, h3⟩
theorem Row_.nil (M : Mem) : Row_ M (.slice none 0 0) 0 [] := .inl ⟨rfl, rfl, .inl rfl⟩
theorem Row_.of {M : Mem} {i : Nat} {b : Blk} (h : Has M i b) {n c : Nat} : Row_ M (.slice (some ⟨i, 0, none⟩) n c) n b.cells := .inr ⟨i, 0, c, b, rfl, h, by simp, by simp⟩
theorem Row_.content {M : Mem} {v : Value} {n sz : Nat} {cells : List Value} (h : Row_ M v n cells) (hl : cells.length = n * sz) : contentV M.get sz v = some (n, cells) := by
  rcases h with ⟨rfl, rfl, rfl | ⟨b, o, c, rfl⟩⟩ | ⟨b, o, c, blk, rfl, h2, h3, h4⟩
  · rfl
  · rfl
  · simp only [contentV]
    by_cases h0 : n = 0
    · subst h0
      simp only [if_true]
      have : cells = [] := List.eq_nil_of_length_eq_zero (by rw [hl]; simp)
      rw [this]
    · rw [if_neg h0, h2.1]
      simp only
      rw [if_pos (by rw [← hl]; exact h3), ← hl, h4]
theorem Row_.len {M : Mem} {v : Value} {n : Nat} {cells : List Value} (h : Row_ M v n cells) {P : Program} {t sz : Nat} (ht : elemSz P t = some sz) : lenV P t v = some (.int .i64 n) := by
  rcases h with ⟨rfl, rfl, rfl | ⟨b, o, c, rfl⟩⟩ | ⟨b, o, c, blk, rfl, _⟩
  · exact ln_eq ht _ _ _
  · exact ln_eq ht _ _ _
  · exact ln_eq ht _ _ _
/-- where an element stands, and what stands there, now and later on -/
theorem Row_.at {M : Mem} {v : Value} {n sz : Nat} {cells : List Value} (h : Row_ M v n cells) (hl : cells.length = n * sz) {P : Program} {t : Nat} (ht : elemSz P t = some sz) {i : Nat} (hi : i < n) :
    ∃ b q, (∀ k, indexAddrV P t v (.int k i) = some (.pointer (some ⟨b, q, none⟩))) ∧ ∀ M1, Grew M M1 → (∀ j, j < sz → ldS M1.get b (q + j) = cells[i * sz + j]?) ∧ ldA M1.get b q sz = some (.agg ((cells.drop (i * sz)).take sz).toArray) := by
  have hle : i * sz + sz ≤ n * sz := by rw [← Nat.succ_mul]; exact Nat.mul_le_mul_right _ hi
  rcases h with ⟨rfl, _⟩ | ⟨b, o, c, blk, rfl, h2, h3, h4⟩
  · omega
  · refine ⟨b, o + i * sz, fun k => ?_, fun M1 hg => ⟨fun j hj => ?_, ?_⟩⟩
    · rw [ia_eq ht, if_pos ⟨by omega, by omega⟩]; simp
    · rw [ldS_at (h2.grew hg).1]
      have := congrArg (fun l => l[i * sz + j]?) h4
      simp only [List.getElem?_take, List.getElem?_drop] at this
      rw [if_pos (by omega)] at this
      rw [Nat.add_assoc]; exact this
    · rw [ldA_at (h2.grew hg).1, if_pos (by omega)]
      rw [← h4, hl, List.drop_take, List.take_take, List.drop_drop, Nat.min_eq_left (by omega)]

theorem Row_.at1 {M : Mem} {v : Value} {n : Nat} {cells : List Value} (h : Row_ M v n cells) (hl : cells.length = n) {P : Program} {t : Nat} (ht : elemSz P t = some 1) {i : Nat} (hi : i < n) :
    ∃ b q, (∀ k, indexAddrV P t v (.int k i) = some (.pointer (some ⟨b, q, none⟩))) ∧ ∀ M1, Grew M M1 → ldS M1.get b q = cells[i]? := by
  obtain ⟨b, q, h1, h2⟩ := h.at (sz := 1) (by omega) ht hi
  exact ⟨b, q, h1, fun M1 hg => by have := (h2 M1 hg).1 0 (by omega); simpa using this⟩

/-- a row of its own, in a memory that grew from another one -/
def Own (M M1 : Mem) (v : Value) (n : Nat) (cells : List Value) (e : TypeId) : Prop :=
  (v = .slice none 0 0 ∧ n = 0 ∧ cells = []) ∨ ∃ id c blk, M.next ≤ id ∧ id < M1.next ∧ v = .slice (some ⟨id, 0, none⟩) n c ∧ M1.get id = some blk ∧ blk.rw = true ∧ blk.elem = e ∧ (n = 0 ∧ cells = [] ∨ blk.cells = cells)
theorem Own.row {M M1 : Mem} {v : Value} {n : Nat} {cells : List Value} {e : TypeId} (h : Own M M1 v n cells e) : Row_ M1 v n cells := by
  rcases h with ⟨h1, h2, h3⟩ | ⟨id, c, blk, _, h1, h2, h3, _, _, ⟨rfl, rfl⟩ | rfl⟩
  · exact .inl ⟨h2, h3, .inl h1⟩
  · exact .inl ⟨rfl, rfl, .inr ⟨_, _, _, h2⟩⟩
  · exact .inr ⟨id, 0, c, _, h2, ⟨h3, h1⟩, by simp, by simp⟩
theorem Own.nil (M M1 : Mem) (e : TypeId) : Own M M1 (.slice none 0 0) 0 [] e := .inl ⟨rfl, rfl, rfl⟩
theorem Own.grew {M M1 M2 : Mem} {v : Value} {n : Nat} {cells : List Value} {e : TypeId} (h : Own M M1 v n cells e) (hg : Grew M1 M2) : Own M M2 v n cells e := by
  rcases h with h | ⟨id, c, blk, h0, h1, h2, h3, h4⟩
  · exact .inl h
  · exact .inr ⟨id, c, blk, h0, Nat.lt_of_lt_of_le h1 hg.next, h2, by rw [hg.keep id h1]; exact h3, h4⟩
theorem Own.base {M M0 M1 : Mem} {v : Value} {n : Nat} {cells : List Value} {e : TypeId} (h : Own M M1 v n cells e) (hn : M0.next ≤ M.next) : Own M0 M1 v n cells e := by
  rcases h with h | ⟨id, c, blk, h0, h1⟩
  · exact .inl h
  · exact .inr ⟨id, c, blk, Nat.le_trans hn h0, h1⟩
/-- a value that is no row in this block -/
def Apart (v : Value) (j : Nat) : Prop := ∀ o n c, v ≠ .slice (some ⟨j, o, none⟩) n c
theorem Own.apart {M M1 : Mem} {v : Value} {n : Nat} {cells : List Value} {e : TypeId} (h : Own M M1 v n cells e) {j : Nat} (hj : j < M.next ∨ M1.next ≤ j) : Apart v j := by
  rintro o n' c rfl
  rcases h with ⟨h, _⟩ | ⟨id, c', blk, h0, h1, h2, _⟩
  · cases h
  · cases h2; omega

/-- what an append to such a row comes to -/
structure AppFacts (P : Program) (t tx e : TypeId) (sz bytes : Nat) : Prop where
  ht : P.underlying t = some (.slice e)
  hx : ∃ d, P.underlying tx = some d ∧ isInt d = false
  hi : ∃ i, P.info? e = some i ∧ i.size = sz ∧ i.bytes = bytes
  hz : ∃ z, zeroC P e = some z ∧ z.size = sz
  hb : bytes ≠ 0
def appK (P : Program) (t tx e sz bytes : Nat) : Bool := match P.underlying t, P.underlying tx, P.info? e, zeroC P e with
  | some (.slice e'), some d, some i, some z => Nat.beq e' e && !(isInt d) && Nat.beq i.size sz && Nat.beq i.bytes bytes && Nat.beq z.size sz && !(Nat.beq bytes 0)
  | _, _, _, _ => false
theorem appFacts {P : Program} {t tx e sz bytes : Nat} (h : appK P t tx e sz bytes = true) : AppFacts P t tx e sz bytes := by
  unfold appK at h
  split at h
  · rename_i e' d i z h1 h2 h3 h4
    simp only [beq_iff, Bool.and_eq_true, decide_eq_true_eq, Bool.not_eq_true', decide_eq_false_iff_not] at h
    obtain ⟨⟨⟨⟨⟨a1, a2⟩, a3⟩, a4⟩, a5⟩, a6⟩ := h
    subst a1
    exact ⟨h1, ⟨d, h2, a2⟩, ⟨i, h3, a3, a4⟩, ⟨z, h4, a5⟩, a6⟩
  · cases h

theorem Own.append {P : Program} {t tx e sz bytes : Nat} (hf : AppFacts P t tx e sz bytes) {M M1 : Mem} {v x : Value} {n k : Nat} {cells news : List Value} (hg : Grew M M1) (h : Own M M1 v n cells e) (hl : cells.length = n * sz)
    (hx : contentV M1.get sz x = some (k, news)) (hone : oneCells news = true) (hb : (n + k) * bytes ≤ 140737488355328) :
    ∃ v2 M2, appendE P M1 t tx v x = some (v2, M2) ∧ Own M M2 v2 (n + k) (cells ++ news) e ∧ Grew M M2 ∧ M1.next ≤ M2.next ∧ (∀ j, j < M1.next → Apart v j → M2.get j = M1.get j ∧ Apart v2 j) := by
  obtain ⟨ht, ⟨d, hd, hdi⟩, ⟨i, hi, hsz, hby⟩, ⟨z, hz, hzs⟩, hb0⟩ := hf
  have hc1 : contentV M1.get sz v = some (n, cells) := h.row.content hl
  subst hsz hby
  have hcond : ¬ (isInt d = true ∨ i.bytes = 0 ∨ z.size ≠ i.size) := by rw [hdi, hzs]; simp [hb0]
  have hk0 : k = 0 → news = [] := by
    intro hk
    unfold contentV at hx
    split at hx
    · injection hx with hx; injection hx with _ hx; exact hx.symm
    · split at hx
      · injection hx with hx; injection hx with _ hx; exact hx.symm
      · rename_i h0
        split at hx
        · split at hx
          · injection hx with hx; injection hx with hx _; exact absurd (hx.trans hk) h0
          · cases hx
        · cases hx
    · subst hk
      split at hx
      · rename_i s _
        injection hx with hx
        injection hx with h1 h2
        rw [← h2]
        have : s.data.toList = [] := List.eq_nil_of_length_eq_zero h1
        rw [this]; rfl
      · cases hx
    · cases hx
  have grown : ∀ N : Mem, Grew M N → M1.next ≤ N.next → N.next ≤ M1.next → (∀ j, j < M1.next → Apart v j → N.get j = M1.get j) →
      Own M (grownE P N e (cells ++ news) (n + k)).2 (grownE P N e (cells ++ news) (n + k)).1 (n + k) (cells ++ news) e ∧ Grew M (grownE P N e (cells ++ news) (n + k)).2 ∧ M1.next ≤ (grownE P N e (cells ++ news) (n + k)).2.next ∧
        (∀ j, j < M1.next → Apart v j → (grownE P N e (cells ++ news) (n + k)).2.get j = M1.get j ∧ Apart (grownE P N e (cells ++ news) (n + k)).1 j) := by
    intro N hN h1 h2 hj
    have hnx : (grownE P N e (cells ++ news) (n + k)).2.next = N.next + 1 := rfl
    have hget : ∀ j, (grownE P N e (cells ++ news) (n + k)).2.get j = if j = N.next then some ⟨cells ++ news, e, true⟩ else N.get j := fun j => Mem.get_put _ _ _ _
    refine ⟨.inr ⟨N.next, unk, _, hN.next, by rw [hnx]; omega, rfl, by rw [hget, if_pos rfl], rfl, rfl, .inr rfl⟩, ⟨fun j hj' => ?_, by rw [hnx]; have := hN.next; omega, fun hok j b' hj' => ?_⟩, by rw [hnx]; omega, fun j hj' hv => ?_⟩
    · rw [hget, if_neg (by have := hN.next; omega)]; exact hN.keep j hj'
    · rw [hnx]
      rw [hget] at hj'
      by_cases hji : j = N.next
      · omega
      · rw [if_neg hji] at hj'; exact Nat.lt_succ_of_lt (hN.ok hok j b' hj')
    · refine ⟨by rw [hget, if_neg (by omega)]; exact hj j hj' hv, ?_⟩
      intro o n' c' hh
      simp only [grownE, rowTo, Value.slice.injEq, Option.some.injEq, Addr.mk.injEq] at hh
      omega
  rcases h with ⟨rfl, rfl, rfl⟩ | ⟨id, c, blk, q1, q2, rfl, q4, q5, q6, q7⟩
  · by_cases h0 : k = 0
    · refine ⟨.slice none 0 0, M1, ?_, .inl ⟨rfl, by omega, by rw [hk0 h0]; rfl⟩, hg, Nat.le_refl _, fun j _ hv => ⟨rfl, hv⟩⟩
      simp only [appendE, ht, hd, hi, hz, hcond, if_false, hc1, hx, h0, if_true]
    · refine ⟨_, _, ?_, grown M1 hg (Nat.le_refl _) (Nat.le_refl _) fun _ _ _ => rfl⟩
      simp only [appendE, ht, hd, hi, hz, hcond, if_false, hc1, hx, h0, hb, if_true]
  · by_cases h0 : k = 0
    · refine ⟨.slice (some ⟨id, 0, none⟩) n c, M1, ?_, .inr ⟨id, c, blk, q1, q2, by rw [h0]; rfl, q4, q5, q6, by rw [hk0 h0, List.append_nil, h0]; exact q7⟩, hg, Nat.le_refl _, fun j _ hv => ⟨rfl, hv⟩⟩
      simp only [appendE, ht, hd, hi, hz, hcond, if_false, hc1, hx, h0, if_true]
    · by_cases hex : c ≠ unk ∧ c < n + k
      · refine ⟨_, _, ?_, grown M1 hg (Nat.le_refl _) (Nat.le_refl _) fun _ _ _ => rfl⟩
        simp only [appendE, ht, hd, hi, hz, hcond, if_false, hc1, hx, h0, hb, hone, and_self, if_true]
        rw [if_pos hex]
      · refine ⟨_, _, ?_, grown (M1.del id) (hg.del q1) (Nat.le_refl _) (Nat.le_refl _) fun j hj hv => ?_⟩
        · simp only [appendE, ht, hd, hi, hz, hcond, if_false, hc1, hx, h0, hb, hone, and_self, if_true]
          rw [if_neg hex, q4]
          simp only [q5, q6, and_self, if_true]
        · rw [Mem.get_del, if_neg]
          rintro rfl
          exact hv 0 n c rfl

/-! ### bytes -/
def cB (l : List Int) : List Value := l.map (Value.int .u8)
theorem cB_length (l : List Int) : (cB l).length = l.length := by simp [cB]
theorem cB_append (l m : List Int) : cB (l ++ m) = cB l ++ cB m := by simp [cB]
theorem cB_one (l : List Int) : oneCells (cB l) = true := by simp [oneCells, cB, Value.oneCell']
theorem cB_plain (l : List Int) : (cB l).all plain = true := by simp [cB, plain]
abbrev RowB (M : Mem) (v : Value) (l : List Int) : Prop := Row_ M v l.length (cB l)
abbrev OwnB (M M1 : Mem) (v : Value) (l : List Int) (e : TypeId) : Prop := Own M M1 v l.length (cB l) e

theorem Grew.row {M : Mem} (cells : List Value) (e : TypeId) : Grew M (newRow M cells e) := ⟨fun i hi => by rw [newRow_get, if_neg (by omega)], by rw [newRow_next]; omega, fun hok j b' hj => by
  rw [newRow_get] at hj
  rw [newRow_next]
  by_cases hji : j = M.next
  · omega
  · rw [if_neg hji] at hj; exact Nat.lt_succ_of_lt (hok j b' hj)⟩
theorem ACall.stay {P : Program} {f : FuncId} {fn : Func} {c : Code} {k : Nat} {rs : List ResultVar} {args : List Value} {M M' : Mem} {r : Value} (hf : P.funcs[f]? = some fn) (hb : fn.body = some c) (hkk : fn.ntmps = k) (hrs : fn.results.toList = rs) (hk : args.length ≤ k)
    (h : AWP P k c ⟨argEnv 0 args, M⟩ fun e s' => (e = .normal ∨ e = .ret) ∧ retV P rs s' = some r ∧ s'.mem = M') : ACall P f args.toArray M r M' := by
  subst hkk hrs
  intro ρ w args' ha hr hfr
  obtain ⟨e, s', hrun, he, hret, rfl⟩ := h
  have hsz : args'.size = args.length := by have := ha.1; simp at this; omega
  have hcur : Cur P fn.ntmps ρ ⟨argEnv 0 args, M⟩ { tmps := args' ++ Array.replicate (fn.ntmps - args'.size) undef, defers := [] } w := by
    refine ⟨fun t v ht => ?_, hr, hfr, rfl, by simp; omega⟩
    obtain ⟨_, h2⟩ := argEnv_get ht
    simp at h2
    obtain ⟨v', h3, h4⟩ := ha.get (i := t) (by simpa using h2)
    have hlt := (Array.getElem?_eq_some_iff.1 h3).1
    exact ⟨v', by rw [Array.getElem?_append_left hlt]; exact h3, h4⟩
  refine calls_of_wp hf hb (wp_mono (hrun ρ _ w hcur) ?_)
  rintro x a' w' ⟨rfl, ρ₀, hc', hg⟩
  obtain ⟨r', e1, e2⟩ := run_retV hc' hret
  rcases he with rfl | rfl
  · exact ⟨hc'.defers, r', e1, ⟨r', ρ₀, rfl, e2, hc'.hr, hc'.free, hg⟩⟩
  · exact ⟨hc'.defers, r', e1, ⟨r', ρ₀, rfl, e2, hc'.hr, hc'.free, hg⟩⟩
/-- how a function ends: what it gives back, told anew, or as it is -/
def Fin (P : Program) (rs : List ResultVar) (M : Mem) (Φ : Value → Mem → Prop) : Exit → St → Prop := fun e s' => (e = .normal ∨ e = .ret) ∧ ∃ r0 r M', retV P rs s' = some r0 ∧ ((∃ π, Settles M r0 s'.mem r M' π) ∨ (r = r0 ∧ M' = s'.mem)) ∧ Φ r M'
theorem ACall.fin {P : Program} {f : FuncId} {fn : Func} {c : Code} {k : Nat} {rs : List ResultVar} {args : List Value} {M : Mem} {Φ : Value → Mem → Prop} (hf : P.funcs[f]? = some fn) (hb : fn.body = some c) (hkk : fn.ntmps = k) (hrs : fn.results.toList = rs) (hk : args.length ≤ k)
    (h : AWP P k c ⟨argEnv 0 args, M⟩ (Fin P rs M Φ)) : ∃ r M', ACall P f args.toArray M r M' ∧ Φ r M' := by
  obtain ⟨e, s', hrun, he, r0, r, M', h1, ⟨π, h2⟩ | ⟨rfl, rfl⟩, h3⟩ := h
  · exact ⟨r, M', ACall.body hf hb hkk hrs hk fun _ => ⟨e, s', hrun, he, r0, π, h1, h2⟩, h3⟩
  · exact ⟨r, s'.mem, ACall.stay hf hb hkk hrs hk ⟨e, s', hrun, he, h1, rfl⟩, h3⟩
theorem Fin.plain {P : Program} {rs : List ResultVar} {M : Mem} {Φ : Value → Mem → Prop} {e : Exit} {s : St} {v : Value} (he : e = .normal ∨ e = .ret) (hr : retV P rs s = some v) (hp : AX.plain v = true) (hok : Ok M) (hg : Grew M s.mem) (h : Φ v M) : Fin P rs M Φ e s :=
  ⟨he, v, v, M, hr, .inl ⟨_, Settles.plain hp (hg.within hok)⟩, h⟩
/-- what was made stays -/
theorem Fin.keep {P : Program} {rs : List ResultVar} {M : Mem} {Φ : Value → Mem → Prop} {e : Exit} {s : St} {v : Value} (he : e = .normal ∨ e = .ret) (hr : retV P rs s = some v) (h : Φ v s.mem) : Fin P rs M Φ e s :=
  ⟨he, v, v, s.mem, hr, .inr ⟨rfl, rfl⟩, h⟩
theorem RN.slice0 {g : Nat → Nat} {hi i n c : Nat} (h : i < hi) : RN g hi (.slice (some ⟨i, 0, none⟩) n unk) (.slice (some ⟨g i, 0, none⟩) n c) := .slice h rfl (.inr rfl)
/-- a row of its own given back (f: how the result holds it) -/
theorem Fin.own {P : Program} {rs : List ResultVar} {M : Mem} {Φ : Value → Mem → Prop} {ex : Exit} {s : St} {v : Value} (f : Value → Value) {n : Nat} {cells : List Value} {e : TypeId} (he : ex = .normal ∨ ex = .ret) (hr : retV P rs s = some (f v)) (hok : Ok M) (hg : Grew M s.mem)
    (ho : Own M s.mem v n cells e) (hpl : cells.all AX.plain = true) (hf : ∀ g hi v v', RN g hi v v' → RN g hi (f v) (f v')) (h : ∀ r M', Grew M M' → Row_ M' r n cells → (n ≠ 0 → Own M M' r n cells e) → Φ (f r) M') : Fin P rs M Φ ex s := by
  have hw := hg.within hok
  rcases ho with ⟨rfl, rfl, rfl⟩ | ⟨id, c, blk, q1, q2, rfl, q3, q4, q5, ⟨rfl, rfl⟩ | q6⟩
  · exact ⟨he, _, f (.slice none 0 0), M, hr, .inl ⟨fun i => i, Nat.le_refl _, fun i h1 h2 => by omega, fun i j h1 h2 => by omega, hf _ _ _ _ .nils, fun i b h => .inl ⟨h, hw i b h⟩⟩, h _ _ (Grew.refl _) (Row_.nil _) (fun h => absurd rfl h)⟩
  · refine ⟨he, _, f (.slice (some ⟨M.next, 0, none⟩) 0 unk), M.bump 1, hr, .inl ⟨fun _ => id, Nat.le_succ _, fun i h1 h2 => q1, fun i j h1 h2 h3 h4 _ => ?_, hf _ _ _ _ ?_, fun i b h => .inl ⟨h, hw i b h⟩⟩, h _ _ ((Grew.refl _).bump 1) (.inl ⟨rfl, rfl, .inr ⟨_, _, _, rfl⟩⟩) (fun h => absurd rfl h)⟩
    · rw [Mem.next_bump] at h2 h4; omega
    · exact .slice (by rw [Mem.next_bump]; omega) (by simp [rn]) (.inr rfl)
  · obtain ⟨bc, be, br⟩ := blk
    simp only at q4 q5 q6
    subst q4 q5 q6
    exact ⟨he, _, f (rowTo n unk M.next), newRow M bc be, hr, .inl ⟨fun _ => id, Settles.row q1 q3 hpl hw (hf _ _ _ _ (.slice (by omega) (by simp [rn]) (.inr rfl)))⟩, h (rowTo n unk M.next) (newRow M bc be) (Grew.row _ _) (Row_.of (b := ⟨bc, be, true⟩) ⟨by rw [newRow_get, if_pos rfl], by rw [newRow_next]; omega⟩)
      fun _ => .inr ⟨M.next, unk, _, Nat.le_refl _, by rw [newRow_next]; omega, rfl, by rw [newRow_get, if_pos rfl], rfl, rfl, .inr rfl⟩⟩

/-! ### steps of a walk -/
theorem AWP.stepR {P : Program} {k id : Nat} {ops : Array Oper} {d : Code} {s : St} {Q : Exit → St → Prop} (live : List Nat)
    (h : ∀ K : Env → Mem → Prop, (∀ e M e', e.keep live = e' → AWP P k d ⟨e', M⟩ Q → K e M) → wpS P ops k s.mem.next ops.toList 0 s.env (s.mem.bump (nAl P ops.toList)) K) : AWP P k (.seq (.region id ops false) d) s Q :=
  AWP.seq (AWP.region (h (fun e M => AWP P k d ⟨e, M⟩ Q) fun e M e' he hq => AWP.keep live (by rw [he]; exact hq)))
theorem AWP.lastR {P : Program} {k id : Nat} {ops : Array Oper} {s : St} {Q : Exit → St → Prop}
    (h : ∀ K : Env → Mem → Prop, (∀ e M, Q .normal ⟨e, M⟩ → K e M) → wpS P ops k s.mem.next ops.toList 0 s.env (s.mem.bump (nAl P ops.toList)) K) : AWP P k (.region id ops false) s Q :=
  AWP.region (h (fun e M => Q .normal ⟨e, M⟩) fun e M hq => hq)
theorem AWP.stepD {P : Program} (hmo : P.follows .mixedOrders = true) {k id : Nat} {ops : Array Oper} {d : Code} {s : St} {Q : Exit → St → Prop} (ord msk : List Nat) (A U : List (Nat × Nat)) (hreg : okReg P k ops ord msk A U = true) (live : List Nat)
    (h : ∀ K : Env → Mem → Prop, (∀ e M e', e.keep live = e' → AWP P k d ⟨e', M⟩ Q → K e M) → wpD P ops k s.mem.next A U (ord.map fun i => (i, opAt ops i)) 0 s.env (s.mem.bump (nAl P (ord.map fun i => opAt ops i))) (s.mem.bump (nAl P (ord.map fun i => opAt ops i))) [] [] [] K) : AWP P k (.seq (.region id ops true) d) s Q :=
  AWP.seq (AWP.regionD hmo ord msk A U hreg (h (fun e M => AWP P k d ⟨e, M⟩ Q) fun e M e' he hq => AWP.keep live (by rw [he]; exact hq)))
/-- a step whose outcome is told ahead -/
theorem AWP.stepX {P : Program} {k id : Nat} {ops : Array Oper} {d : Code} {s : St} {Q : Exit → St → Prop} (live : List Nat) (e' : Env) (M' : Mem)
    (h : ∀ K : Env → Mem → Prop, (∀ e, e.keep live = e' → K e M') → wpS P ops k s.mem.next ops.toList 0 s.env (s.mem.bump (nAl P ops.toList)) K) (h' : AWP P k d ⟨e', M'⟩ Q) : AWP P k (.seq (.region id ops false) d) s Q :=
  AWP.stepR live fun K hK => h K fun e he => hK e M' e' he h'
theorem AWP.stepXD {P : Program} (hmo : P.follows .mixedOrders = true) {k id : Nat} {ops : Array Oper} {d : Code} {s : St} {Q : Exit → St → Prop} (ord msk : List Nat) (A U : List (Nat × Nat)) (hreg : okReg P k ops ord msk A U = true) (live : List Nat) (e' : Env) (M' : Mem)
    (h : ∀ K : Env → Mem → Prop, (∀ e, e.keep live = e' → K e M') → wpD P ops k s.mem.next A U (ord.map fun i => (i, opAt ops i)) 0 s.env (s.mem.bump (nAl P (ord.map fun i => opAt ops i))) (s.mem.bump (nAl P (ord.map fun i => opAt ops i))) [] [] [] K) (h' : AWP P k d ⟨e', M'⟩ Q) : AWP P k (.seq (.region id ops true) d) s Q :=
  AWP.stepD hmo ord msk A U hreg live fun K hK => h K fun e he => hK e M' e' he h'
theorem Then.exit {id : Nat} {K : St → Prop} {Q : Exit → St → Prop} {s : St} (h : Q (.exit id) s) : Then K Q (.exit id) s := h
theorem Then.ret {K : St → Prop} {Q : Exit → St → Prop} {s : St} (h : Q .ret s) : Then K Q .ret s := h
theorem InBlock.ret {id : Nat} {Q : Exit → St → Prop} {s : St} (h : Q .ret s) : InBlock id Q .ret s := h
theorem InBlock.other {id id' : Nat} {Q : Exit → St → Prop} {s : St} (hi : id' ≠ id) (h : Q (.exit id') s) : InBlock id Q (.exit id') s := by simp only [InBlock, hi, if_false]; exact h
theorem InBlock.same {id : Nat} {Q : Exit → St → Prop} {s : St} (h : Q .normal s) : InBlock id Q (.exit id) s := by simp only [InBlock, if_true]; exact h
theorem i64w {n : Int} (h : -9223372036854775808 ≤ n) (h' : n ≤ 9223372036854775807) : IntKind.i64.wrap n = n := IntWalk.i64_in n ⟨h, h'⟩
theorem AWP.oneD' {P : Program} (hmo : P.follows .mixedOrders = true) {k id : Nat} {ops : Array Oper} {s : St} {Q : Exit → St → Prop} (ord msk : List Nat) (A U : List (Nat × Nat)) (hreg : okReg P k ops ord msk A U = true)
    (h : ∀ K : Env → Mem → Prop, (∀ e M, Q .normal ⟨e, M⟩ → K e M) → wpD P ops k s.mem.next A U (ord.map fun i => (i, opAt ops i)) 0 s.env (s.mem.bump (nAl P (ord.map fun i => opAt ops i))) (s.mem.bump (nAl P (ord.map fun i => opAt ops i))) [] [] [] K) : AWP P k (.region id ops true) s Q :=
  AWP.regionD hmo ord msk A U hreg (h (fun e M => Q .normal ⟨e, M⟩) fun e M hq => hq)
theorem AWP.condS {P : Program} {k : Nat} {c : Operand} {x y d : Code} {s : St} {Q : Exit → St → Prop} {t : Bool} (hc : aev s.env c = some (.bool t)) (h : t = true → AWP P k x s (Then (fun s' => AWP P k d s' Q) Q)) (h' : t = false → AWP P k y s (Then (fun s' => AWP P k d s' Q) Q)) : AWP P k (.seq (.cond c x y) d) s Q :=
  AWP.seq (AWP.cond_split hc h h')
theorem AWP.loopK {P : Program} {k : Nat} {c : Code} {s : St} {Q : Exit → St → Prop} (live : List Nat) (I : Nat → Env → Mem → Prop) (n0 : Nat) (h0 : I n0 (s.env.keep live) s.mem)
    (round : ∀ n e M, I n e M → AWP P k c ⟨e, M⟩ (Then (fun s' => ∃ n', n' < n ∧ I n' (s'.env.keep live) s'.mem) Q)) : AWP P k (.loop c) s Q := by
  have key : ∀ n (s : St), I n (s.env.keep live) s.mem → ∃ r e s', Rounds P k c r s e s' ∧ Q e s' := by
    intro n
    induction n using Nat.strongRecOn with
    | _ n ih =>
      intro s hI
      obtain ⟨e, s₁, hr, hq⟩ := AWP.keep live (round n _ _ hI)
      cases e with
      | normal =>
        obtain ⟨n', hn, hI'⟩ := hq
        obtain ⟨r, e, s', hr', hq'⟩ := ih n' hn s₁ hI'
        exact ⟨_, e, s', .more hr hr', hq'⟩
      | exit id => exact ⟨1, _, s₁, .out hr (by simp), hq⟩
      | goto l => exact ⟨1, _, s₁, .out hr (by simp), hq⟩
      | ret => exact ⟨1, _, s₁, .out hr (by simp), hq⟩
      | panic ch => exact ⟨1, _, s₁, .out hr (by simp), hq⟩
      | outgrown => exact ⟨1, _, s₁, .out hr (by simp), hq⟩
  obtain ⟨r, e, s', hr, hq⟩ := key n0 s h0
  exact ⟨e, s', ARun.loop hr, hq⟩
end Go.Proofs.Ythheaehpnleiaaa.AX
