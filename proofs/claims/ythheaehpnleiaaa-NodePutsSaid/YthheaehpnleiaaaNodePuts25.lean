/- What a function holds that reads with a reader: its reader, its variables, its rows. -/
import Derived.Test.YthheaehpnleiaaaNodePuts23
namespace Go.Proofs.Ythheaehpnleiaaa.AX
open Go Go.Proofs
set_option maxRecDepth 100000
set_option linter.unusedVariables false
set_option linter.unusedSimpArgs false

/-- a row that is held -/
structure Rw where
  v : Value
  n : Nat
  cells : List Value
  e : TypeId
/-- two rows that lie in no one block -/
def Sep (v w : Value) : Prop := ∀ j o n c, w = .slice (some ⟨j, o, none⟩) n c → Apart v j
theorem Sep.symm {v w : Value} (h : Sep v w) : Sep w v := fun j o n c hv o2 n2 c2 hw => h j o2 n2 c2 hw o n c hv
theorem Sep.nil (v : Value) : Sep v (.slice none 0 0) := fun j o n c h => by cases h
theorem Sep.nil' (v : Value) : Sep (.slice none 0 0) v := (Sep.nil v).symm
/-- the base of a number -/
def baseN (N : Nat) : Mem := ⟨N, .nil⟩

structure Lo (N : Nat) (M : Mem) (p : Nat) (D : Nat → Prop) (s : Rs) (fx : Mm) (R : Rw → Prop) : Prop where
  ok : Ok M
  next : N ≤ M.next
  pN : p < N
  rd : RdS M p D s
  hD : ∀ j, N ≤ j → D j
  fx : ∀ i b, fx i = some b → Has M i b ∧ i ≠ p ∧ D i ∧ ∀ r, R r → Apart r.v i
  rows : ∀ r, R r → Own (baseN N) M r.v r.n r.cells r.e
  sep : ∀ a b, R a → R b → a = b ∨ Sep a.v b.v

section
variable {N : Nat} {M M1 : Mem} {p : Nat} {D : Nat → Prop} {s s' : Rs} {fx : Mm} {R : Rw → Prop}
theorem Own.within {Mb : Mem} {v : Value} {n : Nat} {cells : List Value} {e : TypeId} (h : Own Mb M v n cells e) (hw : ∀ i b, Mb.next ≤ i → M.get i = some b → M1.get i = some b) (hn : M.next ≤ M1.next) : Own Mb M1 v n cells e := by
  rcases h with h | ⟨id, c, blk, h0, h1, h2, h3, h4⟩
  · exact .inl h
  · exact .inr ⟨id, c, blk, h0, Nat.lt_of_lt_of_le h1 hn, h2, hw _ _ h0 h3, h4⟩
theorem Lo.within (h : Lo N M p D s fx R) (hw : Within M.get M1.get) (hn : M.next ≤ M1.next) (hok : Ok M1) : Lo N M1 p D s fx R :=
  ⟨hok, Nat.le_trans h.next hn, h.pN, h.rd.within hw hn, h.hD, fun i b hi => let ⟨h1, h2⟩ := h.fx i b hi; ⟨⟨hw _ _ h1.1, Nat.lt_of_lt_of_le h1.2 hn⟩, h2⟩, fun r hr => (h.rows r hr).within (fun i b _ hi => hw i b hi) hn, h.sep⟩
theorem Lo.grow (h : Lo N M p D s fx R) (hg : Grew M M1) : Lo N M1 p D s fx R := h.within (hg.within h.ok) hg.next (hg.ok h.ok)
/-- the reader has read -/
theorem Lo.rdr (h : Lo N M p D s fx R) (hg : GrewX p M M1) (hs : RdS M1 p D s') : Lo N M1 p D s' fx R := by
  refine ⟨hg.ok h.ok, Nat.le_trans h.next hg.next, h.pN, hs, h.hD, fun i b hi => ?_, fun r hr => ?_, h.sep⟩
  · obtain ⟨h1, h2, h3⟩ := h.fx i b hi
    exact ⟨h1.x hg h2, h2, h3⟩
  · have h1 := h.rows r hr
    rcases h1 with h1 | ⟨id, c, blk, h0, h1, h2, h3, h4⟩
    · exact .inl h1
    · refine .inr ⟨id, c, blk, h0, Nat.lt_of_lt_of_le h1 hg.next, h2, ?_, h4⟩
      have : N ≤ id := h0
      have hp := h.pN
      rw [hg.keep id h1 (by omega)]; exact h3
/-- a variable more -/
theorem Lo.new (h : Lo N M p D s fx R) {j : Nat} (hj : j < M.next) (hN : N ≤ j) (hnone : M.get j = none) (hrows : ∀ r, R r → Apart r.v j) (b : Blk) : Lo N (M.put j b) p D s (updM fx j b) R := by
  have hw := Within.put hnone b
  have hp := h.pN
  have h1 := h.within hw (Nat.le_refl _) (h.ok.put hj b)
  refine ⟨h1.ok, h1.next, h1.pN, h1.rd, h1.hD, fun i b' hi => ?_, h1.rows, h1.sep⟩
  unfold updM at hi
  split at hi
  · rename_i hij
    cases hi
    subst hij
    exact ⟨Has.put hj b, by omega, h.hD _ hN, hrows⟩
  · exact h1.fx i b' hi
/-- a variable set -/
theorem Lo.set (h : Lo N M p D s fx R) {j : Nat} {b0 : Blk} (hj : fx j = some b0) (b : Blk) : Lo N (M.put j b) p D s (updM fx j b) R := by
  obtain ⟨h1, h2, h3, h4⟩ := h.fx j b0 hj
  have hx : GrewX j M (M.put j b) := (GrewX.refl j M).put h1.2 b
  obtain ⟨vb, g1, g2, g3, g4⟩ := h.rd
  refine ⟨hx.ok h.ok, h.next, h.pN, ⟨vb, g1.x hx (Ne.symm h2), g2.x hx (g4 j h3), g3, g4⟩, h.hD, fun i b' hi => ?_, fun r hr => ?_, h.sep⟩
  · unfold updM at hi
    split at hi
    · rename_i hij
      cases hi
      subst hij
      exact ⟨Has.put h1.2 b, h2, h3, h4⟩
    · rename_i hij
      obtain ⟨q1, q2⟩ := h.fx i b' hi
      exact ⟨q1.x hx hij, q2⟩
  · have ha := h4 r hr
    rcases h.rows r hr with q | ⟨id, c, blk, q0, q1, q2, q3, q4⟩
    · exact .inl q
    · exact .inr ⟨id, c, blk, q0, q1, q2, by rw [Mem.get_put, if_neg (by rintro rfl; exact ha _ _ _ q2)]; exact q3, q4⟩
/-- a row more -/
theorem Lo.add (h : Lo N M p D s fx R) {Mb : Mem} {r : Rw} (ho : Own Mb M r.v r.n r.cells r.e) (hb : N ≤ Mb.next) (hfx : ∀ i b, fx i = some b → Apart r.v i) (hs : ∀ a, R a → Sep a.v r.v) : Lo N M p D s fx (fun x => x = r ∨ R x) := by
  refine ⟨h.ok, h.next, h.pN, h.rd, h.hD, fun i b hi => ?_, fun x hx => ?_, fun a b ha hb' => ?_⟩
  · obtain ⟨h1, h2, h3, h4⟩ := h.fx i b hi
    refine ⟨h1, h2, h3, fun x hx => ?_⟩
    rcases hx with rfl | hx
    · exact hfx i b hi
    · exact h4 x hx
  · rcases hx with rfl | hx
    · exact ho.base hb
    · exact h.rows x hx
  · rcases ha with rfl | ha <;> rcases hb' with rfl | hb'
    · exact .inl rfl
    · exact .inr (hs b hb').symm
    · exact .inr (hs a ha)
    · exact h.sep a b ha hb'
/-- fewer are held -/
theorem Lo.less (h : Lo N M p D s fx R) {fx' : Mm} {R' : Rw → Prop} (hf : ∀ i b, fx' i = some b → fx i = some b) (hR : ∀ r, R' r → R r) : Lo N M p D s fx' R' :=
  ⟨h.ok, h.next, h.pN, h.rd, h.hD, fun i b hi => let ⟨h1, h2, h3, h4⟩ := h.fx i b (hf i b hi); ⟨h1, h2, h3, fun r hr => h4 r (hR r hr)⟩, fun r hr => h.rows r (hR r hr), fun a b ha hb => h.sep a b (hR a ha) (hR b hb)⟩
/-- a row that was made since is apart from all that is held -/
theorem own_sep {Mb : Mem} {v w : Value} {n m : Nat} {cells cells' : List Value} {e e' : TypeId} (h : Own Mb M1 v n cells e) {M0 : Mem} (h' : Own M0 M w m cells' e') (hn : M.next ≤ Mb.next) : Sep w v := by
  intro j o k c hv o2 k2 c2 hw
  rcases h with ⟨rfl, _⟩ | ⟨id, c', blk, h0, h1, h2, _⟩
  · cases hv
  · rcases h' with ⟨rfl, _⟩ | ⟨id', c'', blk', g0, g1, g2, _⟩
    · cases hw
    · rw [hv] at h2; rw [hw] at g2
      cases h2; cases g2
      omega
theorem Ok.grown {P : Program} {M M' : Mem} {e : TypeId} {c : List Value} {k : Nat} {v : Value} (hok : Ok M) (h : grownE P M e c k = (v, M')) : Ok M' := by
  cases h
  intro i b hi
  have hi : (M.put M.next ⟨c, e, true⟩).get i = some b := hi
  rw [Mem.get_put] at hi
  show i < M.next + 1
  by_cases hii : i = M.next
  · omega
  · rw [if_neg hii] at hi; have := hok i b hi; omega
theorem Ok.del {M : Mem} (hok : Ok M) (j : Nat) : Ok (M.del j) := fun i b hi => by
  rw [Mem.get_del] at hi
  by_cases hij : i = j
  · rw [if_pos hij] at hi; cases hi
  · rw [if_neg hij] at hi; exact hok i b hi
theorem Ok.app {P : Program} {M M' : Mem} {t tx : TypeId} {s x v : Value} (hok : Ok M) (h : appendE P M t tx s x = some (v, M')) : Ok M' := by
  unfold appendE at h
  repeat' split at h
  all_goals first | cases h; done | (simp only [Option.some.injEq, Prod.mk.injEq] at h; obtain ⟨_, rfl⟩ := h; exact hok) | (injection h with h; first | exact hok.grown h | exact (hok.del _).grown h)
/-- an append to a held row -/
theorem Lo.append (h : Lo N M p D s fx R) {P : Program} {t tx e sz bytes : Nat} (hf : AppFacts P t tx e sz bytes) {v x : Value} {n k : Nat} {cells news : List Value} (hr : R ⟨v, n, cells, e⟩) (hl : cells.length = n * sz)
    (hx : contentV M.get sz x = some (k, news)) (hone : oneCells news = true) (hb : (n + k) * bytes ≤ 140737488355328) :
    ∃ v2 M2, appendE P M t tx v x = some (v2, M2) ∧ M.next ≤ M2.next ∧ (∀ j, j < N → M2.get j = M.get j) ∧ (∀ j, j < M.next → Apart v j → M2.get j = M.get j) ∧ Lo N M2 p D s fx (fun r => r = ⟨v2, n + k, cells ++ news, e⟩ ∨ (R r ∧ r ≠ ⟨v, n, cells, e⟩)) := by
  have hg : Grew (⟨N, M.tri⟩ : Mem) M := ⟨fun _ _ => rfl, h.next, fun _ => h.ok⟩
  have ho : Own (⟨N, M.tri⟩ : Mem) M v n cells e := h.rows _ hr
  obtain ⟨v2, M2, happ, ho2, hg2, hnx, hfr⟩ := Own.append hf hg ho hl hx hone hb
  have hok2 : Ok M2 := h.ok.app happ
  have hkeep : ∀ j, j < N → M2.get j = M.get j := fun j hj => hg2.keep j hj
  have hap : ∀ w, Sep v w → ∀ j o n c, w = .slice (some ⟨j, o, none⟩) n c → j < M.next → M2.get j = M.get j ∧ Apart v2 j := fun w hw j o n c hj hlt => hfr j hlt (hw j o n c hj)
  have hne : ∀ r, R r → r ≠ ⟨v, n, cells, e⟩ → Sep v r.v := fun r hrr hn => (h.sep _ _ hr hrr).resolve_left (fun hh => hn hh.symm)
  have hv2 : ∀ r, R r → r ≠ ⟨v, n, cells, e⟩ → Own (baseN N) M2 r.v r.n r.cells r.e ∧ Sep v2 r.v := fun r hrr hn => by
    have hs := hne r hrr hn
    rcases h.rows r hrr with q | ⟨id, c, blk, q0, q1, q2, q3, q4⟩
    · exact ⟨.inl q, fun j o n c hj => by rw [q.1] at hj; cases hj⟩
    · obtain ⟨f1, f2⟩ := hap r.v hs id 0 _ c q2 q1
      refine ⟨.inr ⟨id, c, blk, q0, Nat.lt_of_lt_of_le q1 hnx, q2, by rw [f1]; exact q3, q4⟩, fun j o n c hj => ?_⟩
      rw [q2] at hj
      cases hj
      exact f2
  obtain ⟨vb, g1, g2, g3, g4⟩ := h.rd
  have hp := h.pN
  have hvN : ∀ j, j < N → Apart v j := fun j hj => ho.apart (.inl hj)
  have hvb : ∀ b o n c, vb = .slice (some ⟨b, o, none⟩) n c → Apart v b := by
    intro b o n c hb
    rcases ho with ⟨rfl, _⟩ | ⟨id, c', blk, q0, q1, q2, _⟩
    · exact Apart.nil b
    · intro o2 n2 c2 hv
      rw [q2] at hv
      cases hv
      exact g4 b (h.hD b q0) _ _ _ hb
  refine ⟨v2, M2, happ, hnx, hkeep, fun j hj ha => (hfr j hj ha).1, hok2, Nat.le_trans h.next hnx, h.pN, ⟨vb, ⟨by rw [hkeep p hp]; exact g1.1, Nat.lt_of_lt_of_le g1.2 hnx⟩, ?_, g3, g4⟩, h.hD, fun i b hi => ?_, fun r hrr => ?_, fun a b ha hb' => ?_⟩
  · obtain ⟨b, o, c, blk, e1, e0, e2, e3⟩ := g2
    exact ⟨b, o, c, blk, e1, e0, ⟨by rw [(hfr b e2.2 (hvb _ _ _ _ e1)).1]; exact e2.1, Nat.lt_of_lt_of_le e2.2 hnx⟩, e3⟩
  · obtain ⟨f1, f2, f3, f4⟩ := h.fx i b hi
    have hvi := f4 _ hr
    obtain ⟨f5, f6⟩ := hfr i f1.2 hvi
    refine ⟨⟨by rw [f5]; exact f1.1, Nat.lt_of_lt_of_le f1.2 hnx⟩, f2, f3, fun r hrr => ?_⟩
    rcases hrr with rfl | ⟨hrr, _⟩
    · exact f6
    · exact f4 r hrr
  · rcases hrr with rfl | ⟨hrr, hn⟩
    · exact ho2
    · exact (hv2 r hrr hn).1
  · rcases ha with rfl | ⟨ha, hna⟩ <;> rcases hb' with rfl | ⟨hb', hnb⟩
    · exact .inl rfl
    · exact .inr (hv2 b hb' hnb).2
    · exact .inr (hv2 a ha hna).2.symm
    · exact h.sep a b ha hb'
end
end Go.Proofs.Ythheaehpnleiaaa.AX
