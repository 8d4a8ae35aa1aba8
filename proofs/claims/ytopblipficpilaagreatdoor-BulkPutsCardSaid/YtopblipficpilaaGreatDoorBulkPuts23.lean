/- Closed facts of the program that its rows ask, in pieces. -/
import Derived.Test.YtopblipficpilaaGreatDoorProg
import Derived.KernelRfl
import Derived.JoinedOf
namespace Go.Proofs.YtopblipficpilaaGreatDoor.AY
open Go Go.Proofs
set_option maxRecDepth 100000

theorem range_chunk {p : Nat → Bool} {a k : Nat} (h : (List.range' a k).all p = true) : ∀ t, a ≤ t → t < a + k → p t = true :=
  fun t h1 h2 => List.all_eq_true.1 h t (List.mem_range'_1.2 ⟨h1, h2⟩)
theorem tsize : Tryz.prog.types.size = 745 := by kernel_rfl
theorem lo0 : (List.range' 0 50).all (rowFine Tryz.prog) = true := by kernel_rfl
theorem lo1 : (List.range' 50 50).all (rowFine Tryz.prog) = true := by kernel_rfl
theorem lo2 : (List.range' 100 50).all (rowFine Tryz.prog) = true := by kernel_rfl
theorem lo3 : (List.range' 150 50).all (rowFine Tryz.prog) = true := by kernel_rfl
theorem lo4 : (List.range' 200 50).all (rowFine Tryz.prog) = true := by kernel_rfl
theorem lo5 : (List.range' 250 50).all (rowFine Tryz.prog) = true := by kernel_rfl
theorem lo6 : (List.range' 300 50).all (rowFine Tryz.prog) = true := by kernel_rfl
theorem lo7 : (List.range' 350 50).all (rowFine Tryz.prog) = true := by kernel_rfl
theorem lo8 : (List.range' 400 50).all (rowFine Tryz.prog) = true := by kernel_rfl
theorem lo9 : (List.range' 450 50).all (rowFine Tryz.prog) = true := by kernel_rfl
theorem lo10 : (List.range' 500 50).all (rowFine Tryz.prog) = true := by kernel_rfl
theorem lo11 : (List.range' 550 50).all (rowFine Tryz.prog) = true := by kernel_rfl
theorem lo12 : (List.range' 600 50).all (rowFine Tryz.prog) = true := by kernel_rfl
theorem lo13 : (List.range' 650 50).all (rowFine Tryz.prog) = true := by kernel_rfl
theorem lo14 : (List.range' 700 45).all (rowFine Tryz.prog) = true := by kernel_rfl
theorem fine_all (t : Nat) (ht : t < 745) : rowFine Tryz.prog t = true := by
  have hc : (0 ≤ t ∧ t < 50) ∨ (50 ≤ t ∧ t < 100) ∨ (100 ≤ t ∧ t < 150) ∨ (150 ≤ t ∧ t < 200) ∨ (200 ≤ t ∧ t < 250) ∨ (250 ≤ t ∧ t < 300) ∨ (300 ≤ t ∧ t < 350) ∨ (350 ≤ t ∧ t < 400) ∨ (400 ≤ t ∧ t < 450) ∨ (450 ≤ t ∧ t < 500) ∨ (500 ≤ t ∧ t < 550) ∨ (550 ≤ t ∧ t < 600) ∨ (600 ≤ t ∧ t < 650) ∨ (650 ≤ t ∧ t < 700) ∨ (700 ≤ t ∧ t < 745) := by omega
  rcases hc with ⟨h1, h2⟩ | ⟨h1, h2⟩ | ⟨h1, h2⟩ | ⟨h1, h2⟩ | ⟨h1, h2⟩ | ⟨h1, h2⟩ | ⟨h1, h2⟩ | ⟨h1, h2⟩ | ⟨h1, h2⟩ | ⟨h1, h2⟩ | ⟨h1, h2⟩ | ⟨h1, h2⟩ | ⟨h1, h2⟩ | ⟨h1, h2⟩ | ⟨h1, h2⟩
  · exact range_chunk lo0 t h1 h2
  · exact range_chunk lo1 t h1 h2
  · exact range_chunk lo2 t h1 h2
  · exact range_chunk lo3 t h1 h2
  · exact range_chunk lo4 t h1 h2
  · exact range_chunk lo5 t h1 h2
  · exact range_chunk lo6 t h1 h2
  · exact range_chunk lo7 t h1 h2
  · exact range_chunk lo8 t h1 h2
  · exact range_chunk lo9 t h1 h2
  · exact range_chunk lo10 t h1 h2
  · exact range_chunk lo11 t h1 h2
  · exact range_chunk lo12 t h1 h2
  · exact range_chunk lo13 t h1 h2
  · exact range_chunk lo14 t h1 h2
theorem lo_globals : Tryz.prog.globals.all (fun g => decide (g.type < Tryz.prog.types.size)) = true := by rw [tsize]; kernel_rfl
theorem lo_funcs : Tryz.prog.funcs.all (fun f => f.params.all fun t => decide (t < Tryz.prog.types.size)) = true := by rw [tsize]; kernel_rfl
theorem laidOut : laidOutB Tryz.prog = true := by
  unfold laidOutB
  rw [lo_globals, lo_funcs, Bool.and_true, Bool.and_true]
  exact List.all_eq_true.2 fun t ht => fine_all t (by rw [List.mem_range, tsize] at ht; exact ht)
noncomputable def rowedAt (t : Nat) : Bool := match Tryz.prog.underlying t with | some (.map _ e) => decide (e < 745) | _ => true
theorem mr0 : (List.range' 0 50).all rowedAt = true := by kernel_rfl
theorem mr1 : (List.range' 50 50).all rowedAt = true := by kernel_rfl
theorem mr2 : (List.range' 100 50).all rowedAt = true := by kernel_rfl
theorem mr3 : (List.range' 150 50).all rowedAt = true := by kernel_rfl
theorem mr4 : (List.range' 200 50).all rowedAt = true := by kernel_rfl
theorem mr5 : (List.range' 250 50).all rowedAt = true := by kernel_rfl
theorem mr6 : (List.range' 300 50).all rowedAt = true := by kernel_rfl
theorem mr7 : (List.range' 350 50).all rowedAt = true := by kernel_rfl
theorem mr8 : (List.range' 400 50).all rowedAt = true := by kernel_rfl
theorem mr9 : (List.range' 450 50).all rowedAt = true := by kernel_rfl
theorem mr10 : (List.range' 500 50).all rowedAt = true := by kernel_rfl
theorem mr11 : (List.range' 550 50).all rowedAt = true := by kernel_rfl
theorem mr12 : (List.range' 600 50).all rowedAt = true := by kernel_rfl
theorem mr13 : (List.range' 650 50).all rowedAt = true := by kernel_rfl
theorem mr14 : (List.range' 700 45).all rowedAt = true := by kernel_rfl
theorem rowed_all (t : Nat) (ht : t < 745) : rowedAt t = true := by
  have hc : (0 ≤ t ∧ t < 50) ∨ (50 ≤ t ∧ t < 100) ∨ (100 ≤ t ∧ t < 150) ∨ (150 ≤ t ∧ t < 200) ∨ (200 ≤ t ∧ t < 250) ∨ (250 ≤ t ∧ t < 300) ∨ (300 ≤ t ∧ t < 350) ∨ (350 ≤ t ∧ t < 400) ∨ (400 ≤ t ∧ t < 450) ∨ (450 ≤ t ∧ t < 500) ∨ (500 ≤ t ∧ t < 550) ∨ (550 ≤ t ∧ t < 600) ∨ (600 ≤ t ∧ t < 650) ∨ (650 ≤ t ∧ t < 700) ∨ (700 ≤ t ∧ t < 745) := by omega
  rcases hc with ⟨h1, h2⟩ | ⟨h1, h2⟩ | ⟨h1, h2⟩ | ⟨h1, h2⟩ | ⟨h1, h2⟩ | ⟨h1, h2⟩ | ⟨h1, h2⟩ | ⟨h1, h2⟩ | ⟨h1, h2⟩ | ⟨h1, h2⟩ | ⟨h1, h2⟩ | ⟨h1, h2⟩ | ⟨h1, h2⟩ | ⟨h1, h2⟩ | ⟨h1, h2⟩
  · exact range_chunk mr0 t h1 h2
  · exact range_chunk mr1 t h1 h2
  · exact range_chunk mr2 t h1 h2
  · exact range_chunk mr3 t h1 h2
  · exact range_chunk mr4 t h1 h2
  · exact range_chunk mr5 t h1 h2
  · exact range_chunk mr6 t h1 h2
  · exact range_chunk mr7 t h1 h2
  · exact range_chunk mr8 t h1 h2
  · exact range_chunk mr9 t h1 h2
  · exact range_chunk mr10 t h1 h2
  · exact range_chunk mr11 t h1 h2
  · exact range_chunk mr12 t h1 h2
  · exact range_chunk mr13 t h1 h2
  · exact range_chunk mr14 t h1 h2
theorem mapsOk : mapsRowed Tryz.prog = true := by
  unfold mapsRowed
  refine List.all_eq_true.2 fun t ht => ?_
  rw [List.mem_range, tsize] at ht
  rw [tsize]
  exact rowed_all t ht
end Go.Proofs.YtopblipficpilaaGreatDoor.AY
