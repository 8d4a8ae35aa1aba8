/- The layer: the closed run of aes.Build. -/
import Derived.Test.YtopblipficpilaaGreatDoorBulkPuts19
namespace Go.Proofs.YtopblipficpilaaGreatDoor.AY
open Go Go.Proofs
set_option maxRecDepth 1000000

theorem aes_run : isPtr0 ((zMach Tryz.prog tab extF ovNone 100000 3 1000).call 118 [] ⟨0, .nil⟩) = true := by kernel_rfl
theorem aes_ok (M : Mem) : ACall Tryz.prog 118 #[] M (.pointer (some ⟨M.next, 0, none⟩)) (M.bump 1) := by
  obtain ⟨i, M', h⟩ := isPtr0_of aes_run
  exact ((mach_ok mixedO extF_ok tabOk ovNone_ok 1000).call _ _ _ _ _ h).fresh M
/-- what the machine doesn't walk: bytes.Index, aes.Build -/
noncomputable def ovW : Over := fun f => bif Nat.beq f 333 then some fun l M => idxV M l else bif Nat.beq f 118 then some fun l M => List.rec (motive := fun _ => Ans) (some (.pointer (some ⟨Mem.next M, 0, none⟩), mBump M 1)) (fun _ _ _ => none) l else none
theorem ovW_ok : ∀ f g, ovW f = some g → ∀ l M v M', g l M = some (v, M') → ACall Tryz.prog f l.toArray M v M' := by
  intro f g h l M v M' hg
  unfold ovW at h
  simp only [beq_iff, Bool.cond_decide] at h
  split at h
  · rename_i hf; subst hf; cases h; exact idx_ok hg
  · split at h
    · rename_i hf
      subst hf
      cases h
      cases l with
      | nil =>
        have hg : some (Value.pointer (some ⟨M.next, 0, none⟩), M.bump 1) = some (v, M') := hg
        cases hg
        exact aes_ok M
      | cons x l => cases hg
    · cases h
end Go.Proofs.YtopblipficpilaaGreatDoor.AY
