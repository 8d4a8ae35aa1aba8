/- A slice of records of three whole numbers that was handed in, as the printed walks read it. -/
import Derived.Test.YtagoofdopgopoaaPOctetReadsx0
import Derived.Deep.Slices
import Derived.ChangeSame
import Derived.ChangeArms
namespace Go.Proofs.Ytagoofdopgopoaa.POctetReads
open Go.RowKit Go.ChangeShapes Go.WideShapes Go.Deep Go.Proofs.YtagoofdopgopoaaW.PrintWords
set_option linter.unusedVariables false
theorem open_asks {H : Type} {enc : TypeId × Value → H} {P : Program} {w : World} {base : Nat} {held : Bool} {t e q : TypeId} {f0 f1 f2 : Field} {a : Option Addr} {len cap : Nat} {d : DataW H} {ps : List MemPlace}
    (ht : P.underlying t = some (.slice e)) (he : P.underlying e = some (.struct #[f0, f1, f2])) (ce : P.cellsOf e = 3) (o0 : f0.offset = 0) (o1 : f1.offset = 1) (o2 : f2.offset = 2) (t0 : f0.type = q) (t1 : f1.type = q) (t2 : f2.type = q)
    (hq : P.underlying q = some (.int .i64)) (cq : P.cellsOf q = 1) (h : DataW.Trod enc P w base (fun _ => true) held t (.slice a len cap) d ps) :
    ∃ l : List S73, len = l.length ∧ Kd.C k73 w a l.length l ∧ l.length ≤ maxLen ∧ (∀ x ∈ l, (Lit.int .i64 x.f0).wf = true ∧ (Lit.int .i64 x.f1).wf = true ∧ (Lit.int .i64 x.f2).wf = true) ∧ l.length ≤ cap := by
  obtain ⟨fuel, hf⟩ := h
  rcases open_slice ht hf with ⟨hcs, _⟩ | ⟨x, l, c, m, n, D, Pl, hcs, _, hl, hm, hmm, _, hx⟩
  · simp [Value.cells] at hcs
    obtain ⟨rfl, rfl, rfl⟩ := hcs
    exact ⟨[], rfl, ⟨rfl, by simp, fun h => absurd h (by simp)⟩, by simp, by simp, by simp⟩
  · simp [Value.cells] at hcs
    obtain ⟨rfl, rfl, rfl⟩ := hcs
    simp only [if_true] at hmm
    subst hmm
    have each : ∀ i, i < m → ∃ y : S73, (w.cell? (x.add (i * 3)) = some (.int .i64 y.f0) ∧ w.cell? (x.add (i * 3 + 1)) = some (.int .i64 y.f1) ∧ w.cell? (x.add (i * 3 + 2)) = some (.int .i64 y.f2)) ∧ (Lit.int .i64 y.f0).wf = true ∧ (Lit.int .i64 y.f1).wf = true ∧ (Lit.int .i64 y.f2).wf = true := by
      intro i hi
      obtain ⟨cs', h1, h2⟩ := hx i hi
      rw [ce] at h1
      obtain ⟨_, hlen, hcell⟩ := World.cells?_some h1
      obtain ⟨xs, k, hk, hxy, _, hxl, hf⟩ := DataW.trod_struct he h2
      match xs, hxl, cs', hlen with
      | [y0, y1, y2], _, [v0, v1, v2], _ =>
        have g0 := hf 0 f0 rfl
        have g1 := hf 1 f1 rfl
        have g2 := hf 2 f2 rfl
        simp [o0, o1, o2, t0, t1, t2, cq] at g0 g1 g2
        have e0 := hcell 0 (by omega)
        have e1 := hcell 1 (by omega)
        have e2 := hcell 2 (by omega)
        rw [Go.Deep.add_add] at e0 e1 e2
        obtain ⟨n0, q0, _, w0⟩ := DataW.trod_int hq g0
        obtain ⟨n1, q1, _, w1⟩ := DataW.trod_int hq g1
        obtain ⟨n2, q2, _, w2⟩ := DataW.trod_int hq g2
        simp at q0 q1 q2
        subst q0 q1 q2
        exact ⟨⟨n0, n1, n2⟩, ⟨by simpa using e0, by simpa using e1, by simpa using e2⟩, w0, w1, w2⟩
    haveI : Inhabited S73 := ⟨z73⟩
    obtain ⟨Y, hY⟩ := choose_lt each
    have hlen : ((List.range len).map Y).length = len := by simp
    refine ⟨(List.range len).map Y, hlen.symm, ?_, by rw [hlen]; omega, ?_, by rw [hlen]; exact hl⟩
    · refine ⟨rfl, by have : maxLen = 9223372036854775807 := rfl; rw [hlen]; omega, fun _ => ⟨x, rfl, fun j p hj => ?_⟩⟩
      obtain ⟨hj1, hj2⟩ := List.getElem?_eq_some_iff.1 hj
      rw [hlen] at hj1
      have hp : Y j = p := by simpa using hj2
      obtain ⟨⟨h1, h2, h3⟩, _⟩ := hY j (by omega)
      rw [hp] at h1 h2 h3
      refine ⟨[.int .i64 p.f0, .int .i64 p.f1, .int .i64 p.f2], rfl, k73_mk w p, fun i u hu => ?_⟩
      have hs : k73.sz = 3 := rfl
      rw [hs]
      match i, hu with
      | 0, hu => obtain rfl : Value.int .i64 p.f0 = u := by simpa using hu
                 exact h1
      | 1, hu => obtain rfl : Value.int .i64 p.f1 = u := by simpa using hu
                 exact h2
      | 2, hu => obtain rfl : Value.int .i64 p.f2 = u := by simpa using hu
                 exact h3
      | i + 3, hu => simp at hu
    · intro y hy
      obtain ⟨r, hr1, rfl⟩ := List.mem_map.1 hy
      exact (hY r (by have := List.mem_range.1 hr1; omega)).2
end Go.Proofs.Ytagoofdopgopoaa.POctetReads
