/- From what was handed in to the layer, third part: rows of rows of bytes; a start that tells of a package's variable. -/
import Derived.Test.YtopblipficpilaaGreatDoorBulkSplits26
import Derived.Test.YtopblipficpilaaGreatDoorBulkSplits7
namespace Go.Proofs.YtopblipficpilaaGreatDoor.AY
open Go Go.Proofs Go.RowKit Go.ChangeShapes Go.WideShapes Go.Deep
set_option linter.unusedVariables false
set_option linter.unusedSimpArgs false
set_option maxRecDepth 100000

/-- memory that tells of one package's variable alone -/
theorem Good.startG (P : Program) {w : World} {g : Nat} (h : ∃ m, w.cell? ⟨g, 0, none⟩ = some (.int .i64 m)) : ∃ ρ M, Good P w ρ M ∧ M.get 0 = some ⟨[], globTag + g, false⟩ ∧ 0 < M.next := by
  obtain ⟨m, hm⟩ := h
  obtain ⟨c, el, fz, hb, _, hc⟩ := cell_block hm
  have ho : isObj (globTag + g) = true := Nat.ble_eq_true_of_le (show mapTag ≤ globTag + g from Nat.le_trans (by decide) (Nat.le_add_right _ _))
  have hs := Good.start P w
  have hlt : 0 < (Mem.bump ⟨0, .nil⟩ 1).next := Nat.lt_succ_self _
  refine ⟨updE (fun _ => none) 0 ⟨g, 0, c.size, globTag + g⟩, (Mem.bump ⟨0, .nil⟩ 1).put 0 ⟨[], globTag + g, false⟩, ⟨⟨fun i b hi => ?_, fun i j bi bj fi fj _ hi _ hrw => ?_⟩, fun i hi => ?_, fun i b hi => ?_, fun i b hi => ?_⟩, by rw [Mem.get_put, if_pos rfl], by rw [Mem.next_put]; exact hlt⟩
  · rw [Mem.get_put] at hi
    by_cases hii : i = 0
    · rw [if_pos hii] at hi
      cases hi
      exact ⟨⟨g, 0, c.size, globTag + g⟩, by simp [updE, hii], rfl, .inr ⟨ho, rfl, _, hb, .glob hc⟩, fun g' hg' => Nat.add_left_cancel hg'⟩
    · rw [if_neg hii] at hi; cases hi
  · rw [Mem.get_put] at hi
    by_cases hii : i = 0
    · rw [if_pos hii] at hi; cases hi; cases hrw
    · rw [if_neg hii] at hi; cases hi
  · simp only [Mem.next_put, Mem.next_bump] at hi
    unfold updE
    rw [if_neg (by omega)]
  · rw [Mem.get_put] at hi
    rw [Mem.next_put]
    by_cases hii : i = 0
    · rw [hii]; exact hlt
    · rw [if_neg hii] at hi; cases hi
  · rw [Mem.get_put] at hi
    by_cases hii : i = 0
    · rw [if_pos hii] at hi; cases hi; rfl
    · rw [if_neg hii] at hi; cases hi

/-- what was handed in, a row of rows of bytes -/
theorem rem_of {M : Mem} {v : Value} (h : ShV Tryz.prog M 59 v) : ∃ (vs : List Value) (ls : List (List Int)), Rem M v vs ∧ Parts M vs ls ∧ ∀ l, l ∈ ls → l.length ≤ 9223372036854775807 := by
  unfold ShV at h
  rw [Tryz.underlying59] at h
  have h : Sh Tryz.prog M 59 [v] := h
  obtain ⟨u, n, ecs, h1, h2, hE, h3, h4, h5⟩ := h.slice_inv Tryz.underlying59
  rw [show Tryz.prog.cellsOf 42 = 1 by kernel_rfl] at h3 h5
  obtain ⟨L, rfl, rfl, q3⟩ := rows_of (f := fun p : Value × List Int => [p.1]) (p := fun p => RowB M p.1 p.2 ∧ p.2.length ≤ 9223372036854775807) n ecs h3 fun i hi => by
    obtain ⟨u, l, e1, e2, e3, _⟩ := (h5 i hi).ints Tryz.underlying42 Tryz.underlying5 (by kernel_rfl)
    exact ⟨(u, l), e1, e2, Nat.le_trans e3 (by decide)⟩
  rw [flatMap_one (fun p : Value × List Int => p.1)] at h2 hE
  cases h1
  refine ⟨L.map (·.1), L.map (·.2), ?_, ⟨by simp, fun i v l hv hl => ?_⟩, fun l hl => ?_⟩
  · rcases hE with h0 | hE
    · have : L = [] := List.eq_nil_of_length_eq_zero h0
      subst this
      exact .inl ⟨rfl, h2⟩
    · exact .inr (by simpa using hE)
  · rw [List.getElem?_map, Option.map_eq_some_iff] at hv hl
    obtain ⟨a, ha, rfl⟩ := hv
    obtain ⟨b, hb, rfl⟩ := hl
    rw [ha] at hb; cases hb
    exact (q3 a (List.mem_of_getElem? ha)).1
  · obtain ⟨a, ha, rfl⟩ := List.mem_map.1 hl
    exact (q3 a ha).2
end Go.Proofs.YtopblipficpilaaGreatDoor.AY
