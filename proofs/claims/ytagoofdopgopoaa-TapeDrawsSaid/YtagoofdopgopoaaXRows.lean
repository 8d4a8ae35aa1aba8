/- A slice of slices of whole numbers that was handed in, as the printed walks read it. -/
import Derived.Test.YtagoofdopgopoaaWWords
import Derived.Deep.Matrix
import Derived.ChangeSlices
namespace Go.Proofs.YtagoofdopgopoaaW.PrintWords
open Go.RowKit Go.ChangeShapes Go.WideShapes
theorem rowC_take {w : World} {k : IntKind} {A : Option Addr} {L C : Nat} {Z : List Int} (hLC : L ≤ C) (hC : C ≤ maxLen) (hZ : Z.length = C) (hn : A = none → C = 0) (hc : ∀ a', A = some a' → ∀ c, c < C → w.cell? (a'.add c) = some (.int k (Z.getD c 0))) :
    (Kd.int k).C w A (Z.take L).length (Z.take L) := by
  have hl : (Z.take L).length = L := by rw [List.length_take]; omega
  refine Kd.C_of_reads (d := (0 : Int)) (h1 := fun _ => rfl) ⟨rfl, by have : maxLen = 9223372036854775807 := rfl; omega, fun h0 => ?_⟩
  cases A with
  | none => have := hn rfl; omega
  | some a' =>
    refine ⟨a', rfl, fun j hj => ?_⟩
    rw [hc a' rfl j (by omega), List.getD_eq_getElem?_getD, List.getD_eq_getElem?_getD, List.getElem?_take_of_lt (by omega)]
theorem open_rowsC {H : Type} {enc : TypeId × Value → H} {P : Program} {w : World} {base : Nat} {held : Bool} {t e q : TypeId} {k : IntKind} {a : Option Addr} {len cap : Nat} {d : DataW H} {ps : List MemPlace}
    (ht : P.underlying t = some (.slice e)) (he : P.underlying e = some (.slice q)) (hq : P.underlying q = some (.int k)) (ce : P.cellsOf e = 1) (cq : P.cellsOf q = 1) (h : DataW.Trod enc P w base (fun _ => true) held t (.slice a len cap) d ps) :
    ∃ l : List (List Int), len = l.length ∧ Kd.C (Kd.slice q (Kd.int k)) w a l.length l ∧ l.length ≤ maxLen ∧ (∀ x ∈ l, x.length ≤ maxLen ∧ ∀ y ∈ x, (Lit.int k y).wf = true) ∧ l.length ≤ cap := by
  obtain ⟨fuel, hf⟩ := h
  rcases Go.Deep.open_int_rows ht he hq ce cq hf with ⟨hcs, _⟩ | ⟨x, l, c, A, L, C, Z, hcs, _, hl, hm, _, hr⟩
  · simp [Value.cells] at hcs
    obtain ⟨rfl, rfl, rfl⟩ := hcs
    exact ⟨[], rfl, ⟨rfl, by simp, fun h => absurd h (by simp)⟩, by simp, by simp, by simp⟩
  · simp [Value.cells] at hcs
    obtain ⟨rfl, rfl, rfl⟩ := hcs
    have hlen : ((List.range len).map fun r => (Z r).take (L r)).length = len := by simp
    refine ⟨(List.range len).map fun r => (Z r).take (L r), hlen.symm, ?_, by rw [hlen]; omega, ?_, by rw [hlen]; exact hl⟩
    · refine ⟨rfl, by have : maxLen = 9223372036854775807 := rfl; rw [hlen]; omega, fun _ => ⟨x, rfl, fun j p hj => ?_⟩⟩
      obtain ⟨hj1, hj2⟩ := List.getElem?_eq_some_iff.1 hj
      rw [hlen] at hj1
      have hp : (Z j).take (L j) = p := by simpa using hj2
      obtain ⟨r1, r2, r3, r4, r5, r6, r7⟩ := hr j (by omega)
      have hpl : p.length = L j := by rw [← hp, List.length_take]; omega
      refine ⟨[.slice (A j) (L j) (C j)], rfl, ⟨A j, C j, by rw [hpl], by rw [hpl]; exact r2, ?_⟩, fun i u hu => ?_⟩
      · have := rowC_take r2 r3 r4 r6 (fun a' ha' => (r7 a' ha').2)
        rw [hp] at this
        exact this
      · cases i with
        | zero =>
          have hu' : Value.slice (A j) (L j) (C j) = u := by simpa using hu
          subst hu'
          simpa [Kd.slice] using r1
        | succ i => simp at hu
    · intro y hy
      obtain ⟨r, hr1, rfl⟩ := List.mem_map.1 hy
      obtain ⟨_, r2, r3, r4, r5, _, _⟩ := hr r (by have := List.mem_range.1 hr1; omega)
      exact ⟨by rw [List.length_take]; omega, fun n hn => r5 n (List.mem_of_mem_take hn)⟩
end Go.Proofs.YtagoofdopgopoaaW.PrintWords
