/- From what was handed in to the layer, third part: rows of rows of bytes; a start that tells of a package's variable. -/
import Derived.Test.YtopblipficpilaaGreatDoorBulkPuts29
import Derived.Test.YtopblipficpilaaGreatDoorBulkPuts27
namespace Go.Proofs.YtopblipficpilaaGreatDoor.AY
open Go Go.Proofs Go.RowKit Go.ChangeShapes Go.WideShapes Go.Deep
set_option linter.unusedVariables false
set_option linter.unusedSimpArgs false
set_option maxRecDepth 100000

/-- memory that tells of one package's variable alone -/
theorem Good.startG (P : Program) {w : World} {g : Nat} (h : ∃ m, w.cell? ⟨g, 0, none⟩ = some (.int .i64 m)) : ∃ ρ M, Good P w ρ M ∧ M.get 0 = some ⟨[], globTag + g, false⟩ ∧ 0 < M.next := by
  obtain ⟨m, hm⟩ := h
  obtain ⟨c, el, fz, hb, _, hc⟩ := cell_block hm
  have ho : isObj (globTag + g) = true := Nat.ble_eq_true_of_le (show mapTag ≤ globTag + g from Nat.le_trans (by decide) (Nat.le_add_right _ _))
  have hs := Good.start P w
  have hlt : 0 < (Mem.bump ⟨0, .nil⟩ 1).next := Nat.lt_succ_self _
  refine ⟨updE (fun _ => none) 0 ⟨g, 0, c.size, globTag + g⟩, (Mem.bump ⟨0, .nil⟩ 1).put 0 ⟨[], globTag + g, false⟩, ⟨⟨fun i b hi => ?_, fun i j bi bj fi fj _ hi _ hrw => ?_⟩, fun i hi => ?_, fun i b hi => ?_, fun i b hi => ?_⟩, by rw [Mem.get_put, if_pos rfl], by rw [Mem.next_put]; exact hlt⟩
  · rw [Mem.get_put] at hi
    by_cases hii : i = 0
    · rw [if_pos hii] at hi
      cases hi
      exact ⟨⟨g, 0, c.size, globTag + g⟩, by simp [updE, hii], rfl, .inr ⟨ho, rfl, _, hb, .glob hc⟩, fun g' hg' => Nat.add_left_cancel hg'⟩
    · rw [if_neg hii] at hi; cases hi
  · rw [Mem.get_put] at hi
    by_cases hii : i = 0
    · rw [if_pos hii] at hi; cases hi; cases hrw
    · rw [if_neg hii] at hi; cases hi
  · simp only [Mem.next_put, Mem.next_bump] at hi
    unfold updE
    rw [if_neg (by omega)]
  · rw [Mem.get_put] at hi
    rw [Mem.next_put]
    by_cases hii : i = 0
    · rw [hii]; exact hlt
    · rw [if_neg hii] at hi; cases hi
  · rw [Mem.get_put] at hi
    by_cases hii : i = 0
    · rw [if_pos hii] at hi; cases hi; rfl
    · rw [if_neg hii] at hi; cases hi

end Go.Proofs.YtopblipficpilaaGreatDoor.AY
