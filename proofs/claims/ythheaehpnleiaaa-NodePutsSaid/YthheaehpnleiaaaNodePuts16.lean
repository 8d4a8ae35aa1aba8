/- The closed run of a node's works: it answers 'true'. -/
import Derived.Test.YthheaehpnleiaaaNodePuts14
import Derived.KernelRfl
namespace Go.Proofs.Ythheaehpnleiaaa.AX
open Go Go.Proofs
set_option maxRecDepth 1000000

/-- a row's bytes -/
def bytesV (M : Mem) (v : Value) : Option (List Int) := match v with
  | .slice a n c => match contentV M.get 1 (.slice a n c) with
    | some (k, cs) => match intsOf cs with
      | some l => bif Nat.beq l.length k then some l else none
      | none => none
    | none => none
  | _ => none
theorem bytesV_ok {M : Mem} {v : Value} {l : List Int} (h : bytesV M v = some l) : contentV M.get 1 v = some (l.length, cB l) ∧ ∀ s, v ≠ .string s := by
  unfold bytesV at h
  split at h
  · split at h
    · rename_i k cs hc
      split at h
      · rename_i l' hl
        simp only [beq_iff, Bool.cond_decide] at h
        split at h
        · rename_i hk
          cases h
          subst hk
          exact ⟨by rw [hc, intsOf_eq hl]; rfl, fun s hs => by cases hs⟩
        · cases h
      · cases h
    · cases h
  · cases h
def ov100 : CallF := fun f args M => bif Nat.beq f 100 then (match args with
  | ⟨[v, u]⟩ => match bytesV M v, bytesV M u with
    | some l, some m => some (.int .i64 (cmpB l m), M)
    | _, _ => none
  | _ => none) else none
theorem ov100_ok : ∀ f args M v M', ov100 f args M = some (v, M') → ACall Try.prog f args M v M' := by
  intro f args M v M' h
  unfold ov100 at h
  simp only [beq_iff, Bool.cond_decide] at h
  split at h
  · rename_i hf
    subst hf
    split at h
    · rename_i v u
      split at h
      · rename_i l m hl hm
        cases h
        obtain ⟨h1, h2⟩ := bytesV_ok hl
        obtain ⟨h3, h4⟩ := bytesV_ok hm
        exact compare_gen v u l m M h1 h3 h2 h4
      · cases h
    · cases h
  · cases h

namespace W21
def tab : List Row := [
  ⟨14, 6, [0, 1, 2, 3, 4, 5, 6, 7, 8], [0, 0, 3, 7, 0, 0, 48, 112, 255], [], []⟩,
  ⟨22, 15, [6, 7, 8, 9, 10, 11, 12, 13, 0, 1, 2, 3, 4, 5, 14, 15, 16, 17, 18], [0, 0, 2, 6, 14, 30, 0, 64, 192, 448, 0, 1024, 3072, 8128, 0, 16384, 65535, 131071, 262143], [], [(2, 9), (2, 13), (11, 9), (15, 9), (15, 13)]⟩,
  ⟨24, 22, [0, 1, 2, 3, 4, 5, 6, 7, 8, 9], [0, 0, 2, 7, 0, 31, 63, 127, 255, 511], [], [(4, 2), (4, 3)]⟩,
  ⟨28, 1, [0, 1, 2, 3, 4, 5, 6, 7, 8], [0, 1, 3, 7, 0, 16, 55, 127, 255], [], [(5, 2)]⟩,
  ⟨30, 6, [0, 1, 2, 3, 4, 5, 6, 7, 8, 9, 10, 11, 12, 13, 14, 15, 16, 17, 18, 19, 20, 21, 22, 23, 24, 25, 26, 27, 28, 29, 30, 31, 32, 33, 34, 35, 36, 37, 38, 39, 40, 41, 42, 43], [0, 1, 0, 7, 15, 31, 0, 64, 0, 448, 960, 1984, 4095, 8191, 16383, 32767, 16383, 131071, 262143, 524287, 16383, 1064959, 16383, 7356415, 15745023, 32522239, 67108863, 134217727, 268435455, 536870911, 1073741823, 536870911, 4294967295, 8589934591, 17179869183, 536870911, 34896609279, 536870911, 241055039487, 515932946431, 1065688760319, 2199023255551, 4398046511103, 8796093022207], [], []⟩,
  ⟨35, 1, [0, 1, 2, 3, 4, 5, 6, 7, 8, 9], [0, 1, 3, 0, 8, 24, 0, 0, 199, 511], [], [(4, 8)]⟩,
  ⟨35, 6, [0, 1, 2, 3, 4, 5, 6, 7, 8, 9, 10, 11, 12, 13], [0, 1, 0, 7, 15, 0, 32, 0, 224, 511, 31, 2047, 4095, 8191], [], [(6, 4), (8, 4)]⟩,
  ⟨35, 8, [0, 1, 2, 3, 4, 5, 6, 7, 8, 9, 10, 11, 12, 13], [0, 1, 0, 7, 15, 0, 32, 0, 224, 511, 31, 2047, 4095, 8191], [], [(6, 4), (8, 4)]⟩,
  ⟨35, 9, [0, 1, 2, 3, 4], [0, 0, 1, 7, 15], [], [(1, 2)]⟩,
  ⟨67, 7, [0, 1, 2, 3, 4, 5, 6, 7, 8, 9, 10, 11], [0, 0, 0, 6, 14, 0, 0, 96, 224, 510, 1023, 2047], [], []⟩,
  ⟨72, 4, [0, 1, 2, 3, 4, 5, 6, 7, 8, 9, 10, 11, 12, 13, 14], [0, 0, 0, 4, 14, 30, 63, 0, 0, 0, 768, 1792, 4095, 8191, 16383], [], [(11, 6)]⟩,
  ⟨74, 4, [0, 1, 2, 3, 4, 5, 6, 7, 8, 9, 10, 11, 12, 13, 14], [0, 0, 0, 4, 14, 30, 63, 0, 0, 0, 768, 1792, 4095, 8191, 16383], [], [(11, 6)]⟩,
  ⟨82, 6, [0, 1, 2, 3, 4, 5, 6, 7, 8, 9, 10, 11, 12, 13, 14, 15, 16, 17, 18, 19, 20, 21, 22, 23, 24, 25], [0, 0, 3, 7, 15, 0, 0, 96, 224, 480, 1023, 2047, 4095, 8191, 8191, 32767, 65535, 131071, 8191, 8191, 794623, 1843199, 3940351, 8388607, 16777215, 33554431], [], []⟩]

def is : Option (Value × Mem) → Bool
  | some (.bool b, _) => b
  | _ => false
theorem is_spec {o : Option (Value × Mem)} (h : is o = true) : ∃ M, o = some (.bool true, M) := by
  unfold is at h
  split at h
  · subst h; exact ⟨_, rfl⟩
  · cases h
theorem run : is ((X.at Try.prog tab ov100 3000).call 21 #[] ⟨0, .nil⟩) = true := by kernel_rfl
theorem good : progOk Try.prog tab = true := by kernel_rfl
theorem mixedO : Try.prog.follows .mixedOrders = true := by kernel_rfl
end W21
theorem works21_spec (M : Mem) : ACall Try.prog 21 #[] M (.bool true) M := by
  obtain ⟨M', h⟩ := W21.is_spec W21.run
  exact ACall.closed ((X.ok W21.mixedO W21.good ov100_ok 3000).2.2 _ _ _ _ _ h) rfl M
end Go.Proofs.Ythheaehpnleiaaa.AX
