/- The layer: a machine that is quick where a kernel runs it: what it does. Each thing is told by its recursor, and what hangs on the code alone is told first, so that the kernel makes it once. -/
import Derived.Test.YtopblipficpilaaGreatDoorBulkSplits3
import Derived.Test.YtopblipficpilaaGreatDoorBulkSplits4
namespace Go.Proofs.YtopblipficpilaaGreatDoor.AY
open Go
set_option linter.unusedVariables false
set_option linter.unusedSimpArgs false

abbrev Ans := Option (Value × Mem)
abbrev KV := Value → Ans

/-! ### an environment, of two floors (beyond 64: a trie) -/
structure L8 where
  (v0 v1 v2 v3 v4 v5 v6 v7 : Option Value)
structure Ev where
  (c0 c1 c2 c3 c4 c5 c6 c7 : L8)
  hi : Tr
def L8.nil : L8 := ⟨none, none, none, none, none, none, none, none⟩
def Ev.nil : Ev := ⟨.nil, .nil, .nil, .nil, .nil, .nil, .nil, .nil, .nil⟩
/-- what stands behind the first n: told from the list's end on, so that a kernel finds again what it had -/
noncomputable def lDrop {α : Type} (l : List α) (n : Nat) : List α := Nat.rec (motive := fun _ => List α) l (fun _ ih => List.rec (motive := fun _ => List α) [] (fun _ t _ => t) ih) n
structure G where
  run : List Value → Ev → KV → Ans
structure S0 where
  run : Ev → Value → Ev
/-- on with: how many blocks were numbered, what the region made, the environment, memory -/
abbrev KT := Nat → List Value → Ev → Mem → Ans
structure S where
  run : Ev → Value → Ev
  put : KT → Nat → List Value → Ev → Mem → Value → Ans

noncomputable def gTab : List G := [
  ⟨fun _ t k => Ev.rec (motive := fun _ => KV → Ans) (fun c0 _ _ _ _ _ _ _ _ k => L8.rec (motive := fun _ => KV → Ans) (fun v0 _ _ _ _ _ _ _ k => Option.rec (motive := fun _ => Ans) none k v0) c0 k) t k⟩,
  ⟨fun _ t k => Ev.rec (motive := fun _ => KV → Ans) (fun c0 _ _ _ _ _ _ _ _ k => L8.rec (motive := fun _ => KV → Ans) (fun _ v1 _ _ _ _ _ _ k => Option.rec (motive := fun _ => Ans) none k v1) c0 k) t k⟩,
  ⟨fun _ t k => Ev.rec (motive := fun _ => KV → Ans) (fun c0 _ _ _ _ _ _ _ _ k => L8.rec (motive := fun _ => KV → Ans) (fun _ _ v2 _ _ _ _ _ k => Option.rec (motive := fun _ => Ans) none k v2) c0 k) t k⟩,
  ⟨fun _ t k => Ev.rec (motive := fun _ => KV → Ans) (fun c0 _ _ _ _ _ _ _ _ k => L8.rec (motive := fun _ => KV → Ans) (fun _ _ _ v3 _ _ _ _ k => Option.rec (motive := fun _ => Ans) none k v3) c0 k) t k⟩,
  ⟨fun _ t k => Ev.rec (motive := fun _ => KV → Ans) (fun c0 _ _ _ _ _ _ _ _ k => L8.rec (motive := fun _ => KV → Ans) (fun _ _ _ _ v4 _ _ _ k => Option.rec (motive := fun _ => Ans) none k v4) c0 k) t k⟩,
  ⟨fun _ t k => Ev.rec (motive := fun _ => KV → Ans) (fun c0 _ _ _ _ _ _ _ _ k => L8.rec (motive := fun _ => KV → Ans) (fun _ _ _ _ _ v5 _ _ k => Option.rec (motive := fun _ => Ans) none k v5) c0 k) t k⟩,
  ⟨fun _ t k => Ev.rec (motive := fun _ => KV → Ans) (fun c0 _ _ _ _ _ _ _ _ k => L8.rec (motive := fun _ => KV → Ans) (fun _ _ _ _ _ _ v6 _ k => Option.rec (motive := fun _ => Ans) none k v6) c0 k) t k⟩,
  ⟨fun _ t k => Ev.rec (motive := fun _ => KV → Ans) (fun c0 _ _ _ _ _ _ _ _ k => L8.rec (motive := fun _ => KV → Ans) (fun _ _ _ _ _ _ _ v7 k => Option.rec (motive := fun _ => Ans) none k v7) c0 k) t k⟩,
  ⟨fun _ t k => Ev.rec (motive := fun _ => KV → Ans) (fun _ c1 _ _ _ _ _ _ _ k => L8.rec (motive := fun _ => KV → Ans) (fun v0 _ _ _ _ _ _ _ k => Option.rec (motive := fun _ => Ans) none k v0) c1 k) t k⟩,
  ⟨fun _ t k => Ev.rec (motive := fun _ => KV → Ans) (fun _ c1 _ _ _ _ _ _ _ k => L8.rec (motive := fun _ => KV → Ans) (fun _ v1 _ _ _ _ _ _ k => Option.rec (motive := fun _ => Ans) none k v1) c1 k) t k⟩,
  ⟨fun _ t k => Ev.rec (motive := fun _ => KV → Ans) (fun _ c1 _ _ _ _ _ _ _ k => L8.rec (motive := fun _ => KV → Ans) (fun _ _ v2 _ _ _ _ _ k => Option.rec (motive := fun _ => Ans) none k v2) c1 k) t k⟩,
  ⟨fun _ t k => Ev.rec (motive := fun _ => KV → Ans) (fun _ c1 _ _ _ _ _ _ _ k => L8.rec (motive := fun _ => KV → Ans) (fun _ _ _ v3 _ _ _ _ k => Option.rec (motive := fun _ => Ans) none k v3) c1 k) t k⟩,
  ⟨fun _ t k => Ev.rec (motive := fun _ => KV → Ans) (fun _ c1 _ _ _ _ _ _ _ k => L8.rec (motive := fun _ => KV → Ans) (fun _ _ _ _ v4 _ _ _ k => Option.rec (motive := fun _ => Ans) none k v4) c1 k) t k⟩,
  ⟨fun _ t k => Ev.rec (motive := fun _ => KV → Ans) (fun _ c1 _ _ _ _ _ _ _ k => L8.rec (motive := fun _ => KV → Ans) (fun _ _ _ _ _ v5 _ _ k => Option.rec (motive := fun _ => Ans) none k v5) c1 k) t k⟩,
  ⟨fun _ t k => Ev.rec (motive := fun _ => KV → Ans) (fun _ c1 _ _ _ _ _ _ _ k => L8.rec (motive := fun _ => KV → Ans) (fun _ _ _ _ _ _ v6 _ k => Option.rec (motive := fun _ => Ans) none k v6) c1 k) t k⟩,
  ⟨fun _ t k => Ev.rec (motive := fun _ => KV → Ans) (fun _ c1 _ _ _ _ _ _ _ k => L8.rec (motive := fun _ => KV → Ans) (fun _ _ _ _ _ _ _ v7 k => Option.rec (motive := fun _ => Ans) none k v7) c1 k) t k⟩,
  ⟨fun _ t k => Ev.rec (motive := fun _ => KV → Ans) (fun _ _ c2 _ _ _ _ _ _ k => L8.rec (motive := fun _ => KV → Ans) (fun v0 _ _ _ _ _ _ _ k => Option.rec (motive := fun _ => Ans) none k v0) c2 k) t k⟩,
  ⟨fun _ t k => Ev.rec (motive := fun _ => KV → Ans) (fun _ _ c2 _ _ _ _ _ _ k => L8.rec (motive := fun _ => KV → Ans) (fun _ v1 _ _ _ _ _ _ k => Option.rec (motive := fun _ => Ans) none k v1) c2 k) t k⟩,
  ⟨fun _ t k => Ev.rec (motive := fun _ => KV → Ans) (fun _ _ c2 _ _ _ _ _ _ k => L8.rec (motive := fun _ => KV → Ans) (fun _ _ v2 _ _ _ _ _ k => Option.rec (motive := fun _ => Ans) none k v2) c2 k) t k⟩,
  ⟨fun _ t k => Ev.rec (motive := fun _ => KV → Ans) (fun _ _ c2 _ _ _ _ _ _ k => L8.rec (motive := fun _ => KV → Ans) (fun _ _ _ v3 _ _ _ _ k => Option.rec (motive := fun _ => Ans) none k v3) c2 k) t k⟩,
  ⟨fun _ t k => Ev.rec (motive := fun _ => KV → Ans) (fun _ _ c2 _ _ _ _ _ _ k => L8.rec (motive := fun _ => KV → Ans) (fun _ _ _ _ v4 _ _ _ k => Option.rec (motive := fun _ => Ans) none k v4) c2 k) t k⟩,
  ⟨fun _ t k => Ev.rec (motive := fun _ => KV → Ans) (fun _ _ c2 _ _ _ _ _ _ k => L8.rec (motive := fun _ => KV → Ans) (fun _ _ _ _ _ v5 _ _ k => Option.rec (motive := fun _ => Ans) none k v5) c2 k) t k⟩,
  ⟨fun _ t k => Ev.rec (motive := fun _ => KV → Ans) (fun _ _ c2 _ _ _ _ _ _ k => L8.rec (motive := fun _ => KV → Ans) (fun _ _ _ _ _ _ v6 _ k => Option.rec (motive := fun _ => Ans) none k v6) c2 k) t k⟩,
  ⟨fun _ t k => Ev.rec (motive := fun _ => KV → Ans) (fun _ _ c2 _ _ _ _ _ _ k => L8.rec (motive := fun _ => KV → Ans) (fun _ _ _ _ _ _ _ v7 k => Option.rec (motive := fun _ => Ans) none k v7) c2 k) t k⟩,
  ⟨fun _ t k => Ev.rec (motive := fun _ => KV → Ans) (fun _ _ _ c3 _ _ _ _ _ k => L8.rec (motive := fun _ => KV → Ans) (fun v0 _ _ _ _ _ _ _ k => Option.rec (motive := fun _ => Ans) none k v0) c3 k) t k⟩,
  ⟨fun _ t k => Ev.rec (motive := fun _ => KV → Ans) (fun _ _ _ c3 _ _ _ _ _ k => L8.rec (motive := fun _ => KV → Ans) (fun _ v1 _ _ _ _ _ _ k => Option.rec (motive := fun _ => Ans) none k v1) c3 k) t k⟩,
  ⟨fun _ t k => Ev.rec (motive := fun _ => KV → Ans) (fun _ _ _ c3 _ _ _ _ _ k => L8.rec (motive := fun _ => KV → Ans) (fun _ _ v2 _ _ _ _ _ k => Option.rec (motive := fun _ => Ans) none k v2) c3 k) t k⟩,
  ⟨fun _ t k => Ev.rec (motive := fun _ => KV → Ans) (fun _ _ _ c3 _ _ _ _ _ k => L8.rec (motive := fun _ => KV → Ans) (fun _ _ _ v3 _ _ _ _ k => Option.rec (motive := fun _ => Ans) none k v3) c3 k) t k⟩,
  ⟨fun _ t k => Ev.rec (motive := fun _ => KV → Ans) (fun _ _ _ c3 _ _ _ _ _ k => L8.rec (motive := fun _ => KV → Ans) (fun _ _ _ _ v4 _ _ _ k => Option.rec (motive := fun _ => Ans) none k v4) c3 k) t k⟩,
  ⟨fun _ t k => Ev.rec (motive := fun _ => KV → Ans) (fun _ _ _ c3 _ _ _ _ _ k => L8.rec (motive := fun _ => KV → Ans) (fun _ _ _ _ _ v5 _ _ k => Option.rec (motive := fun _ => Ans) none k v5) c3 k) t k⟩,
  ⟨fun _ t k => Ev.rec (motive := fun _ => KV → Ans) (fun _ _ _ c3 _ _ _ _ _ k => L8.rec (motive := fun _ => KV → Ans) (fun _ _ _ _ _ _ v6 _ k => Option.rec (motive := fun _ => Ans) none k v6) c3 k) t k⟩,
  ⟨fun _ t k => Ev.rec (motive := fun _ => KV → Ans) (fun _ _ _ c3 _ _ _ _ _ k => L8.rec (motive := fun _ => KV → Ans) (fun _ _ _ _ _ _ _ v7 k => Option.rec (motive := fun _ => Ans) none k v7) c3 k) t k⟩,
  ⟨fun _ t k => Ev.rec (motive := fun _ => KV → Ans) (fun _ _ _ _ c4 _ _ _ _ k => L8.rec (motive := fun _ => KV → Ans) (fun v0 _ _ _ _ _ _ _ k => Option.rec (motive := fun _ => Ans) none k v0) c4 k) t k⟩,
  ⟨fun _ t k => Ev.rec (motive := fun _ => KV → Ans) (fun _ _ _ _ c4 _ _ _ _ k => L8.rec (motive := fun _ => KV → Ans) (fun _ v1 _ _ _ _ _ _ k => Option.rec (motive := fun _ => Ans) none k v1) c4 k) t k⟩,
  ⟨fun _ t k => Ev.rec (motive := fun _ => KV → Ans) (fun _ _ _ _ c4 _ _ _ _ k => L8.rec (motive := fun _ => KV → Ans) (fun _ _ v2 _ _ _ _ _ k => Option.rec (motive := fun _ => Ans) none k v2) c4 k) t k⟩,
  ⟨fun _ t k => Ev.rec (motive := fun _ => KV → Ans) (fun _ _ _ _ c4 _ _ _ _ k => L8.rec (motive := fun _ => KV → Ans) (fun _ _ _ v3 _ _ _ _ k => Option.rec (motive := fun _ => Ans) none k v3) c4 k) t k⟩,
  ⟨fun _ t k => Ev.rec (motive := fun _ => KV → Ans) (fun _ _ _ _ c4 _ _ _ _ k => L8.rec (motive := fun _ => KV → Ans) (fun _ _ _ _ v4 _ _ _ k => Option.rec (motive := fun _ => Ans) none k v4) c4 k) t k⟩,
  ⟨fun _ t k => Ev.rec (motive := fun _ => KV → Ans) (fun _ _ _ _ c4 _ _ _ _ k => L8.rec (motive := fun _ => KV → Ans) (fun _ _ _ _ _ v5 _ _ k => Option.rec (motive := fun _ => Ans) none k v5) c4 k) t k⟩,
  ⟨fun _ t k => Ev.rec (motive := fun _ => KV → Ans) (fun _ _ _ _ c4 _ _ _ _ k => L8.rec (motive := fun _ => KV → Ans) (fun _ _ _ _ _ _ v6 _ k => Option.rec (motive := fun _ => Ans) none k v6) c4 k) t k⟩,
  ⟨fun _ t k => Ev.rec (motive := fun _ => KV → Ans) (fun _ _ _ _ c4 _ _ _ _ k => L8.rec (motive := fun _ => KV → Ans) (fun _ _ _ _ _ _ _ v7 k => Option.rec (motive := fun _ => Ans) none k v7) c4 k) t k⟩,
  ⟨fun _ t k => Ev.rec (motive := fun _ => KV → Ans) (fun _ _ _ _ _ c5 _ _ _ k => L8.rec (motive := fun _ => KV → Ans) (fun v0 _ _ _ _ _ _ _ k => Option.rec (motive := fun _ => Ans) none k v0) c5 k) t k⟩,
  ⟨fun _ t k => Ev.rec (motive := fun _ => KV → Ans) (fun _ _ _ _ _ c5 _ _ _ k => L8.rec (motive := fun _ => KV → Ans) (fun _ v1 _ _ _ _ _ _ k => Option.rec (motive := fun _ => Ans) none k v1) c5 k) t k⟩,
  ⟨fun _ t k => Ev.rec (motive := fun _ => KV → Ans) (fun _ _ _ _ _ c5 _ _ _ k => L8.rec (motive := fun _ => KV → Ans) (fun _ _ v2 _ _ _ _ _ k => Option.rec (motive := fun _ => Ans) none k v2) c5 k) t k⟩,
  ⟨fun _ t k => Ev.rec (motive := fun _ => KV → Ans) (fun _ _ _ _ _ c5 _ _ _ k => L8.rec (motive := fun _ => KV → Ans) (fun _ _ _ v3 _ _ _ _ k => Option.rec (motive := fun _ => Ans) none k v3) c5 k) t k⟩,
  ⟨fun _ t k => Ev.rec (motive := fun _ => KV → Ans) (fun _ _ _ _ _ c5 _ _ _ k => L8.rec (motive := fun _ => KV → Ans) (fun _ _ _ _ v4 _ _ _ k => Option.rec (motive := fun _ => Ans) none k v4) c5 k) t k⟩,
  ⟨fun _ t k => Ev.rec (motive := fun _ => KV → Ans) (fun _ _ _ _ _ c5 _ _ _ k => L8.rec (motive := fun _ => KV → Ans) (fun _ _ _ _ _ v5 _ _ k => Option.rec (motive := fun _ => Ans) none k v5) c5 k) t k⟩,
  ⟨fun _ t k => Ev.rec (motive := fun _ => KV → Ans) (fun _ _ _ _ _ c5 _ _ _ k => L8.rec (motive := fun _ => KV → Ans) (fun _ _ _ _ _ _ v6 _ k => Option.rec (motive := fun _ => Ans) none k v6) c5 k) t k⟩,
  ⟨fun _ t k => Ev.rec (motive := fun _ => KV → Ans) (fun _ _ _ _ _ c5 _ _ _ k => L8.rec (motive := fun _ => KV → Ans) (fun _ _ _ _ _ _ _ v7 k => Option.rec (motive := fun _ => Ans) none k v7) c5 k) t k⟩,
  ⟨fun _ t k => Ev.rec (motive := fun _ => KV → Ans) (fun _ _ _ _ _ _ c6 _ _ k => L8.rec (motive := fun _ => KV → Ans) (fun v0 _ _ _ _ _ _ _ k => Option.rec (motive := fun _ => Ans) none k v0) c6 k) t k⟩,
  ⟨fun _ t k => Ev.rec (motive := fun _ => KV → Ans) (fun _ _ _ _ _ _ c6 _ _ k => L8.rec (motive := fun _ => KV → Ans) (fun _ v1 _ _ _ _ _ _ k => Option.rec (motive := fun _ => Ans) none k v1) c6 k) t k⟩,
  ⟨fun _ t k => Ev.rec (motive := fun _ => KV → Ans) (fun _ _ _ _ _ _ c6 _ _ k => L8.rec (motive := fun _ => KV → Ans) (fun _ _ v2 _ _ _ _ _ k => Option.rec (motive := fun _ => Ans) none k v2) c6 k) t k⟩,
  ⟨fun _ t k => Ev.rec (motive := fun _ => KV → Ans) (fun _ _ _ _ _ _ c6 _ _ k => L8.rec (motive := fun _ => KV → Ans) (fun _ _ _ v3 _ _ _ _ k => Option.rec (motive := fun _ => Ans) none k v3) c6 k) t k⟩,
  ⟨fun _ t k => Ev.rec (motive := fun _ => KV → Ans) (fun _ _ _ _ _ _ c6 _ _ k => L8.rec (motive := fun _ => KV → Ans) (fun _ _ _ _ v4 _ _ _ k => Option.rec (motive := fun _ => Ans) none k v4) c6 k) t k⟩,
  ⟨fun _ t k => Ev.rec (motive := fun _ => KV → Ans) (fun _ _ _ _ _ _ c6 _ _ k => L8.rec (motive := fun _ => KV → Ans) (fun _ _ _ _ _ v5 _ _ k => Option.rec (motive := fun _ => Ans) none k v5) c6 k) t k⟩,
  ⟨fun _ t k => Ev.rec (motive := fun _ => KV → Ans) (fun _ _ _ _ _ _ c6 _ _ k => L8.rec (motive := fun _ => KV → Ans) (fun _ _ _ _ _ _ v6 _ k => Option.rec (motive := fun _ => Ans) none k v6) c6 k) t k⟩,
  ⟨fun _ t k => Ev.rec (motive := fun _ => KV → Ans) (fun _ _ _ _ _ _ c6 _ _ k => L8.rec (motive := fun _ => KV → Ans) (fun _ _ _ _ _ _ _ v7 k => Option.rec (motive := fun _ => Ans) none k v7) c6 k) t k⟩,
  ⟨fun _ t k => Ev.rec (motive := fun _ => KV → Ans) (fun _ _ _ _ _ _ _ c7 _ k => L8.rec (motive := fun _ => KV → Ans) (fun v0 _ _ _ _ _ _ _ k => Option.rec (motive := fun _ => Ans) none k v0) c7 k) t k⟩,
  ⟨fun _ t k => Ev.rec (motive := fun _ => KV → Ans) (fun _ _ _ _ _ _ _ c7 _ k => L8.rec (motive := fun _ => KV → Ans) (fun _ v1 _ _ _ _ _ _ k => Option.rec (motive := fun _ => Ans) none k v1) c7 k) t k⟩,
  ⟨fun _ t k => Ev.rec (motive := fun _ => KV → Ans) (fun _ _ _ _ _ _ _ c7 _ k => L8.rec (motive := fun _ => KV → Ans) (fun _ _ v2 _ _ _ _ _ k => Option.rec (motive := fun _ => Ans) none k v2) c7 k) t k⟩,
  ⟨fun _ t k => Ev.rec (motive := fun _ => KV → Ans) (fun _ _ _ _ _ _ _ c7 _ k => L8.rec (motive := fun _ => KV → Ans) (fun _ _ _ v3 _ _ _ _ k => Option.rec (motive := fun _ => Ans) none k v3) c7 k) t k⟩,
  ⟨fun _ t k => Ev.rec (motive := fun _ => KV → Ans) (fun _ _ _ _ _ _ _ c7 _ k => L8.rec (motive := fun _ => KV → Ans) (fun _ _ _ _ v4 _ _ _ k => Option.rec (motive := fun _ => Ans) none k v4) c7 k) t k⟩,
  ⟨fun _ t k => Ev.rec (motive := fun _ => KV → Ans) (fun _ _ _ _ _ _ _ c7 _ k => L8.rec (motive := fun _ => KV → Ans) (fun _ _ _ _ _ v5 _ _ k => Option.rec (motive := fun _ => Ans) none k v5) c7 k) t k⟩,
  ⟨fun _ t k => Ev.rec (motive := fun _ => KV → Ans) (fun _ _ _ _ _ _ _ c7 _ k => L8.rec (motive := fun _ => KV → Ans) (fun _ _ _ _ _ _ v6 _ k => Option.rec (motive := fun _ => Ans) none k v6) c7 k) t k⟩,
  ⟨fun _ t k => Ev.rec (motive := fun _ => KV → Ans) (fun _ _ _ _ _ _ _ c7 _ k => L8.rec (motive := fun _ => KV → Ans) (fun _ _ _ _ _ _ _ v7 k => Option.rec (motive := fun _ => Ans) none k v7) c7 k) t k⟩]
noncomputable def sTab : List S0 := [
  ⟨fun t v => Ev.rec (motive := fun _ => Value → Ev) (fun c0 c1 c2 c3 c4 c5 c6 c7 h v => ⟨L8.rec (motive := fun _ => Value → L8) (fun _ v1 v2 v3 v4 v5 v6 v7 v => ⟨some v, v1, v2, v3, v4, v5, v6, v7⟩) c0 v, c1, c2, c3, c4, c5, c6, c7, h⟩) t v⟩,
  ⟨fun t v => Ev.rec (motive := fun _ => Value → Ev) (fun c0 c1 c2 c3 c4 c5 c6 c7 h v => ⟨L8.rec (motive := fun _ => Value → L8) (fun v0 _ v2 v3 v4 v5 v6 v7 v => ⟨v0, some v, v2, v3, v4, v5, v6, v7⟩) c0 v, c1, c2, c3, c4, c5, c6, c7, h⟩) t v⟩,
  ⟨fun t v => Ev.rec (motive := fun _ => Value → Ev) (fun c0 c1 c2 c3 c4 c5 c6 c7 h v => ⟨L8.rec (motive := fun _ => Value → L8) (fun v0 v1 _ v3 v4 v5 v6 v7 v => ⟨v0, v1, some v, v3, v4, v5, v6, v7⟩) c0 v, c1, c2, c3, c4, c5, c6, c7, h⟩) t v⟩,
  ⟨fun t v => Ev.rec (motive := fun _ => Value → Ev) (fun c0 c1 c2 c3 c4 c5 c6 c7 h v => ⟨L8.rec (motive := fun _ => Value → L8) (fun v0 v1 v2 _ v4 v5 v6 v7 v => ⟨v0, v1, v2, some v, v4, v5, v6, v7⟩) c0 v, c1, c2, c3, c4, c5, c6, c7, h⟩) t v⟩,
  ⟨fun t v => Ev.rec (motive := fun _ => Value → Ev) (fun c0 c1 c2 c3 c4 c5 c6 c7 h v => ⟨L8.rec (motive := fun _ => Value → L8) (fun v0 v1 v2 v3 _ v5 v6 v7 v => ⟨v0, v1, v2, v3, some v, v5, v6, v7⟩) c0 v, c1, c2, c3, c4, c5, c6, c7, h⟩) t v⟩,
  ⟨fun t v => Ev.rec (motive := fun _ => Value → Ev) (fun c0 c1 c2 c3 c4 c5 c6 c7 h v => ⟨L8.rec (motive := fun _ => Value → L8) (fun v0 v1 v2 v3 v4 _ v6 v7 v => ⟨v0, v1, v2, v3, v4, some v, v6, v7⟩) c0 v, c1, c2, c3, c4, c5, c6, c7, h⟩) t v⟩,
  ⟨fun t v => Ev.rec (motive := fun _ => Value → Ev) (fun c0 c1 c2 c3 c4 c5 c6 c7 h v => ⟨L8.rec (motive := fun _ => Value → L8) (fun v0 v1 v2 v3 v4 v5 _ v7 v => ⟨v0, v1, v2, v3, v4, v5, some v, v7⟩) c0 v, c1, c2, c3, c4, c5, c6, c7, h⟩) t v⟩,
  ⟨fun t v => Ev.rec (motive := fun _ => Value → Ev) (fun c0 c1 c2 c3 c4 c5 c6 c7 h v => ⟨L8.rec (motive := fun _ => Value → L8) (fun v0 v1 v2 v3 v4 v5 v6 _ v => ⟨v0, v1, v2, v3, v4, v5, v6, some v⟩) c0 v, c1, c2, c3, c4, c5, c6, c7, h⟩) t v⟩,
  ⟨fun t v => Ev.rec (motive := fun _ => Value → Ev) (fun c0 c1 c2 c3 c4 c5 c6 c7 h v => ⟨c0, L8.rec (motive := fun _ => Value → L8) (fun _ v1 v2 v3 v4 v5 v6 v7 v => ⟨some v, v1, v2, v3, v4, v5, v6, v7⟩) c1 v, c2, c3, c4, c5, c6, c7, h⟩) t v⟩,
  ⟨fun t v => Ev.rec (motive := fun _ => Value → Ev) (fun c0 c1 c2 c3 c4 c5 c6 c7 h v => ⟨c0, L8.rec (motive := fun _ => Value → L8) (fun v0 _ v2 v3 v4 v5 v6 v7 v => ⟨v0, some v, v2, v3, v4, v5, v6, v7⟩) c1 v, c2, c3, c4, c5, c6, c7, h⟩) t v⟩,
  ⟨fun t v => Ev.rec (motive := fun _ => Value → Ev) (fun c0 c1 c2 c3 c4 c5 c6 c7 h v => ⟨c0, L8.rec (motive := fun _ => Value → L8) (fun v0 v1 _ v3 v4 v5 v6 v7 v => ⟨v0, v1, some v, v3, v4, v5, v6, v7⟩) c1 v, c2, c3, c4, c5, c6, c7, h⟩) t v⟩,
  ⟨fun t v => Ev.rec (motive := fun _ => Value → Ev) (fun c0 c1 c2 c3 c4 c5 c6 c7 h v => ⟨c0, L8.rec (motive := fun _ => Value → L8) (fun v0 v1 v2 _ v4 v5 v6 v7 v => ⟨v0, v1, v2, some v, v4, v5, v6, v7⟩) c1 v, c2, c3, c4, c5, c6, c7, h⟩) t v⟩,
  ⟨fun t v => Ev.rec (motive := fun _ => Value → Ev) (fun c0 c1 c2 c3 c4 c5 c6 c7 h v => ⟨c0, L8.rec (motive := fun _ => Value → L8) (fun v0 v1 v2 v3 _ v5 v6 v7 v => ⟨v0, v1, v2, v3, some v, v5, v6, v7⟩) c1 v, c2, c3, c4, c5, c6, c7, h⟩) t v⟩,
  ⟨fun t v => Ev.rec (motive := fun _ => Value → Ev) (fun c0 c1 c2 c3 c4 c5 c6 c7 h v => ⟨c0, L8.rec (motive := fun _ => Value → L8) (fun v0 v1 v2 v3 v4 _ v6 v7 v => ⟨v0, v1, v2, v3, v4, some v, v6, v7⟩) c1 v, c2, c3, c4, c5, c6, c7, h⟩) t v⟩,
  ⟨fun t v => Ev.rec (motive := fun _ => Value → Ev) (fun c0 c1 c2 c3 c4 c5 c6 c7 h v => ⟨c0, L8.rec (motive := fun _ => Value → L8) (fun v0 v1 v2 v3 v4 v5 _ v7 v => ⟨v0, v1, v2, v3, v4, v5, some v, v7⟩) c1 v, c2, c3, c4, c5, c6, c7, h⟩) t v⟩,
  ⟨fun t v => Ev.rec (motive := fun _ => Value → Ev) (fun c0 c1 c2 c3 c4 c5 c6 c7 h v => ⟨c0, L8.rec (motive := fun _ => Value → L8) (fun v0 v1 v2 v3 v4 v5 v6 _ v => ⟨v0, v1, v2, v3, v4, v5, v6, some v⟩) c1 v, c2, c3, c4, c5, c6, c7, h⟩) t v⟩,
  ⟨fun t v => Ev.rec (motive := fun _ => Value → Ev) (fun c0 c1 c2 c3 c4 c5 c6 c7 h v => ⟨c0, c1, L8.rec (motive := fun _ => Value → L8) (fun _ v1 v2 v3 v4 v5 v6 v7 v => ⟨some v, v1, v2, v3, v4, v5, v6, v7⟩) c2 v, c3, c4, c5, c6, c7, h⟩) t v⟩,
  ⟨fun t v => Ev.rec (motive := fun _ => Value → Ev) (fun c0 c1 c2 c3 c4 c5 c6 c7 h v => ⟨c0, c1, L8.rec (motive := fun _ => Value → L8) (fun v0 _ v2 v3 v4 v5 v6 v7 v => ⟨v0, some v, v2, v3, v4, v5, v6, v7⟩) c2 v, c3, c4, c5, c6, c7, h⟩) t v⟩,
  ⟨fun t v => Ev.rec (motive := fun _ => Value → Ev) (fun c0 c1 c2 c3 c4 c5 c6 c7 h v => ⟨c0, c1, L8.rec (motive := fun _ => Value → L8) (fun v0 v1 _ v3 v4 v5 v6 v7 v => ⟨v0, v1, some v, v3, v4, v5, v6, v7⟩) c2 v, c3, c4, c5, c6, c7, h⟩) t v⟩,
  ⟨fun t v => Ev.rec (motive := fun _ => Value → Ev) (fun c0 c1 c2 c3 c4 c5 c6 c7 h v => ⟨c0, c1, L8.rec (motive := fun _ => Value → L8) (fun v0 v1 v2 _ v4 v5 v6 v7 v => ⟨v0, v1, v2, some v, v4, v5, v6, v7⟩) c2 v, c3, c4, c5, c6, c7, h⟩) t v⟩,
  ⟨fun t v => Ev.rec (motive := fun _ => Value → Ev) (fun c0 c1 c2 c3 c4 c5 c6 c7 h v => ⟨c0, c1, L8.rec (motive := fun _ => Value → L8) (fun v0 v1 v2 v3 _ v5 v6 v7 v => ⟨v0, v1, v2, v3, some v, v5, v6, v7⟩) c2 v, c3, c4, c5, c6, c7, h⟩) t v⟩,
  ⟨fun t v => Ev.rec (motive := fun _ => Value → Ev) (fun c0 c1 c2 c3 c4 c5 c6 c7 h v => ⟨c0, c1, L8.rec (motive := fun _ => Value → L8) (fun v0 v1 v2 v3 v4 _ v6 v7 v => ⟨v0, v1, v2, v3, v4, some v, v6, v7⟩) c2 v, c3, c4, c5, c6, c7, h⟩) t v⟩,
  ⟨fun t v => Ev.rec (motive := fun _ => Value → Ev) (fun c0 c1 c2 c3 c4 c5 c6 c7 h v => ⟨c0, c1, L8.rec (motive := fun _ => Value → L8) (fun v0 v1 v2 v3 v4 v5 _ v7 v => ⟨v0, v1, v2, v3, v4, v5, some v, v7⟩) c2 v, c3, c4, c5, c6, c7, h⟩) t v⟩,
  ⟨fun t v => Ev.rec (motive := fun _ => Value → Ev) (fun c0 c1 c2 c3 c4 c5 c6 c7 h v => ⟨c0, c1, L8.rec (motive := fun _ => Value → L8) (fun v0 v1 v2 v3 v4 v5 v6 _ v => ⟨v0, v1, v2, v3, v4, v5, v6, some v⟩) c2 v, c3, c4, c5, c6, c7, h⟩) t v⟩,
  ⟨fun t v => Ev.rec (motive := fun _ => Value → Ev) (fun c0 c1 c2 c3 c4 c5 c6 c7 h v => ⟨c0, c1, c2, L8.rec (motive := fun _ => Value → L8) (fun _ v1 v2 v3 v4 v5 v6 v7 v => ⟨some v, v1, v2, v3, v4, v5, v6, v7⟩) c3 v, c4, c5, c6, c7, h⟩) t v⟩,
  ⟨fun t v => Ev.rec (motive := fun _ => Value → Ev) (fun c0 c1 c2 c3 c4 c5 c6 c7 h v => ⟨c0, c1, c2, L8.rec (motive := fun _ => Value → L8) (fun v0 _ v2 v3 v4 v5 v6 v7 v => ⟨v0, some v, v2, v3, v4, v5, v6, v7⟩) c3 v, c4, c5, c6, c7, h⟩) t v⟩,
  ⟨fun t v => Ev.rec (motive := fun _ => Value → Ev) (fun c0 c1 c2 c3 c4 c5 c6 c7 h v => ⟨c0, c1, c2, L8.rec (motive := fun _ => Value → L8) (fun v0 v1 _ v3 v4 v5 v6 v7 v => ⟨v0, v1, some v, v3, v4, v5, v6, v7⟩) c3 v, c4, c5, c6, c7, h⟩) t v⟩,
  ⟨fun t v => Ev.rec (motive := fun _ => Value → Ev) (fun c0 c1 c2 c3 c4 c5 c6 c7 h v => ⟨c0, c1, c2, L8.rec (motive := fun _ => Value → L8) (fun v0 v1 v2 _ v4 v5 v6 v7 v => ⟨v0, v1, v2, some v, v4, v5, v6, v7⟩) c3 v, c4, c5, c6, c7, h⟩) t v⟩,
  ⟨fun t v => Ev.rec (motive := fun _ => Value → Ev) (fun c0 c1 c2 c3 c4 c5 c6 c7 h v => ⟨c0, c1, c2, L8.rec (motive := fun _ => Value → L8) (fun v0 v1 v2 v3 _ v5 v6 v7 v => ⟨v0, v1, v2, v3, some v, v5, v6, v7⟩) c3 v, c4, c5, c6, c7, h⟩) t v⟩,
  ⟨fun t v => Ev.rec (motive := fun _ => Value → Ev) (fun c0 c1 c2 c3 c4 c5 c6 c7 h v => ⟨c0, c1, c2, L8.rec (motive := fun _ => Value → L8) (fun v0 v1 v2 v3 v4 _ v6 v7 v => ⟨v0, v1, v2, v3, v4, some v, v6, v7⟩) c3 v, c4, c5, c6, c7, h⟩) t v⟩,
  ⟨fun t v => Ev.rec (motive := fun _ => Value → Ev) (fun c0 c1 c2 c3 c4 c5 c6 c7 h v => ⟨c0, c1, c2, L8.rec (motive := fun _ => Value → L8) (fun v0 v1 v2 v3 v4 v5 _ v7 v => ⟨v0, v1, v2, v3, v4, v5, some v, v7⟩) c3 v, c4, c5, c6, c7, h⟩) t v⟩,
  ⟨fun t v => Ev.rec (motive := fun _ => Value → Ev) (fun c0 c1 c2 c3 c4 c5 c6 c7 h v => ⟨c0, c1, c2, L8.rec (motive := fun _ => Value → L8) (fun v0 v1 v2 v3 v4 v5 v6 _ v => ⟨v0, v1, v2, v3, v4, v5, v6, some v⟩) c3 v, c4, c5, c6, c7, h⟩) t v⟩,
  ⟨fun t v => Ev.rec (motive := fun _ => Value → Ev) (fun c0 c1 c2 c3 c4 c5 c6 c7 h v => ⟨c0, c1, c2, c3, L8.rec (motive := fun _ => Value → L8) (fun _ v1 v2 v3 v4 v5 v6 v7 v => ⟨some v, v1, v2, v3, v4, v5, v6, v7⟩) c4 v, c5, c6, c7, h⟩) t v⟩,
  ⟨fun t v => Ev.rec (motive := fun _ => Value → Ev) (fun c0 c1 c2 c3 c4 c5 c6 c7 h v => ⟨c0, c1, c2, c3, L8.rec (motive := fun _ => Value → L8) (fun v0 _ v2 v3 v4 v5 v6 v7 v => ⟨v0, some v, v2, v3, v4, v5, v6, v7⟩) c4 v, c5, c6, c7, h⟩) t v⟩,
  ⟨fun t v => Ev.rec (motive := fun _ => Value → Ev) (fun c0 c1 c2 c3 c4 c5 c6 c7 h v => ⟨c0, c1, c2, c3, L8.rec (motive := fun _ => Value → L8) (fun v0 v1 _ v3 v4 v5 v6 v7 v => ⟨v0, v1, some v, v3, v4, v5, v6, v7⟩) c4 v, c5, c6, c7, h⟩) t v⟩,
  ⟨fun t v => Ev.rec (motive := fun _ => Value → Ev) (fun c0 c1 c2 c3 c4 c5 c6 c7 h v => ⟨c0, c1, c2, c3, L8.rec (motive := fun _ => Value → L8) (fun v0 v1 v2 _ v4 v5 v6 v7 v => ⟨v0, v1, v2, some v, v4, v5, v6, v7⟩) c4 v, c5, c6, c7, h⟩) t v⟩,
  ⟨fun t v => Ev.rec (motive := fun _ => Value → Ev) (fun c0 c1 c2 c3 c4 c5 c6 c7 h v => ⟨c0, c1, c2, c3, L8.rec (motive := fun _ => Value → L8) (fun v0 v1 v2 v3 _ v5 v6 v7 v => ⟨v0, v1, v2, v3, some v, v5, v6, v7⟩) c4 v, c5, c6, c7, h⟩) t v⟩,
  ⟨fun t v => Ev.rec (motive := fun _ => Value → Ev) (fun c0 c1 c2 c3 c4 c5 c6 c7 h v => ⟨c0, c1, c2, c3, L8.rec (motive := fun _ => Value → L8) (fun v0 v1 v2 v3 v4 _ v6 v7 v => ⟨v0, v1, v2, v3, v4, some v, v6, v7⟩) c4 v, c5, c6, c7, h⟩) t v⟩,
  ⟨fun t v => Ev.rec (motive := fun _ => Value → Ev) (fun c0 c1 c2 c3 c4 c5 c6 c7 h v => ⟨c0, c1, c2, c3, L8.rec (motive := fun _ => Value → L8) (fun v0 v1 v2 v3 v4 v5 _ v7 v => ⟨v0, v1, v2, v3, v4, v5, some v, v7⟩) c4 v, c5, c6, c7, h⟩) t v⟩,
  ⟨fun t v => Ev.rec (motive := fun _ => Value → Ev) (fun c0 c1 c2 c3 c4 c5 c6 c7 h v => ⟨c0, c1, c2, c3, L8.rec (motive := fun _ => Value → L8) (fun v0 v1 v2 v3 v4 v5 v6 _ v => ⟨v0, v1, v2, v3, v4, v5, v6, some v⟩) c4 v, c5, c6, c7, h⟩) t v⟩,
  ⟨fun t v => Ev.rec (motive := fun _ => Value → Ev) (fun c0 c1 c2 c3 c4 c5 c6 c7 h v => ⟨c0, c1, c2, c3, c4, L8.rec (motive := fun _ => Value → L8) (fun _ v1 v2 v3 v4 v5 v6 v7 v => ⟨some v, v1, v2, v3, v4, v5, v6, v7⟩) c5 v, c6, c7, h⟩) t v⟩,
  ⟨fun t v => Ev.rec (motive := fun _ => Value → Ev) (fun c0 c1 c2 c3 c4 c5 c6 c7 h v => ⟨c0, c1, c2, c3, c4, L8.rec (motive := fun _ => Value → L8) (fun v0 _ v2 v3 v4 v5 v6 v7 v => ⟨v0, some v, v2, v3, v4, v5, v6, v7⟩) c5 v, c6, c7, h⟩) t v⟩,
  ⟨fun t v => Ev.rec (motive := fun _ => Value → Ev) (fun c0 c1 c2 c3 c4 c5 c6 c7 h v => ⟨c0, c1, c2, c3, c4, L8.rec (motive := fun _ => Value → L8) (fun v0 v1 _ v3 v4 v5 v6 v7 v => ⟨v0, v1, some v, v3, v4, v5, v6, v7⟩) c5 v, c6, c7, h⟩) t v⟩,
  ⟨fun t v => Ev.rec (motive := fun _ => Value → Ev) (fun c0 c1 c2 c3 c4 c5 c6 c7 h v => ⟨c0, c1, c2, c3, c4, L8.rec (motive := fun _ => Value → L8) (fun v0 v1 v2 _ v4 v5 v6 v7 v => ⟨v0, v1, v2, some v, v4, v5, v6, v7⟩) c5 v, c6, c7, h⟩) t v⟩,
  ⟨fun t v => Ev.rec (motive := fun _ => Value → Ev) (fun c0 c1 c2 c3 c4 c5 c6 c7 h v => ⟨c0, c1, c2, c3, c4, L8.rec (motive := fun _ => Value → L8) (fun v0 v1 v2 v3 _ v5 v6 v7 v => ⟨v0, v1, v2, v3, some v, v5, v6, v7⟩) c5 v, c6, c7, h⟩) t v⟩,
  ⟨fun t v => Ev.rec (motive := fun _ => Value → Ev) (fun c0 c1 c2 c3 c4 c5 c6 c7 h v => ⟨c0, c1, c2, c3, c4, L8.rec (motive := fun _ => Value → L8) (fun v0 v1 v2 v3 v4 _ v6 v7 v => ⟨v0, v1, v2, v3, v4, some v, v6, v7⟩) c5 v, c6, c7, h⟩) t v⟩,
  ⟨fun t v => Ev.rec (motive := fun _ => Value → Ev) (fun c0 c1 c2 c3 c4 c5 c6 c7 h v => ⟨c0, c1, c2, c3, c4, L8.rec (motive := fun _ => Value → L8) (fun v0 v1 v2 v3 v4 v5 _ v7 v => ⟨v0, v1, v2, v3, v4, v5, some v, v7⟩) c5 v, c6, c7, h⟩) t v⟩,
  ⟨fun t v => Ev.rec (motive := fun _ => Value → Ev) (fun c0 c1 c2 c3 c4 c5 c6 c7 h v => ⟨c0, c1, c2, c3, c4, L8.rec (motive := fun _ => Value → L8) (fun v0 v1 v2 v3 v4 v5 v6 _ v => ⟨v0, v1, v2, v3, v4, v5, v6, some v⟩) c5 v, c6, c7, h⟩) t v⟩,
  ⟨fun t v => Ev.rec (motive := fun _ => Value → Ev) (fun c0 c1 c2 c3 c4 c5 c6 c7 h v => ⟨c0, c1, c2, c3, c4, c5, L8.rec (motive := fun _ => Value → L8) (fun _ v1 v2 v3 v4 v5 v6 v7 v => ⟨some v, v1, v2, v3, v4, v5, v6, v7⟩) c6 v, c7, h⟩) t v⟩,
  ⟨fun t v => Ev.rec (motive := fun _ => Value → Ev) (fun c0 c1 c2 c3 c4 c5 c6 c7 h v => ⟨c0, c1, c2, c3, c4, c5, L8.rec (motive := fun _ => Value → L8) (fun v0 _ v2 v3 v4 v5 v6 v7 v => ⟨v0, some v, v2, v3, v4, v5, v6, v7⟩) c6 v, c7, h⟩) t v⟩,
  ⟨fun t v => Ev.rec (motive := fun _ => Value → Ev) (fun c0 c1 c2 c3 c4 c5 c6 c7 h v => ⟨c0, c1, c2, c3, c4, c5, L8.rec (motive := fun _ => Value → L8) (fun v0 v1 _ v3 v4 v5 v6 v7 v => ⟨v0, v1, some v, v3, v4, v5, v6, v7⟩) c6 v, c7, h⟩) t v⟩,
  ⟨fun t v => Ev.rec (motive := fun _ => Value → Ev) (fun c0 c1 c2 c3 c4 c5 c6 c7 h v => ⟨c0, c1, c2, c3, c4, c5, L8.rec (motive := fun _ => Value → L8) (fun v0 v1 v2 _ v4 v5 v6 v7 v => ⟨v0, v1, v2, some v, v4, v5, v6, v7⟩) c6 v, c7, h⟩) t v⟩,
  ⟨fun t v => Ev.rec (motive := fun _ => Value → Ev) (fun c0 c1 c2 c3 c4 c5 c6 c7 h v => ⟨c0, c1, c2, c3, c4, c5, L8.rec (motive := fun _ => Value → L8) (fun v0 v1 v2 v3 _ v5 v6 v7 v => ⟨v0, v1, v2, v3, some v, v5, v6, v7⟩) c6 v, c7, h⟩) t v⟩,
  ⟨fun t v => Ev.rec (motive := fun _ => Value → Ev) (fun c0 c1 c2 c3 c4 c5 c6 c7 h v => ⟨c0, c1, c2, c3, c4, c5, L8.rec (motive := fun _ => Value → L8) (fun v0 v1 v2 v3 v4 _ v6 v7 v => ⟨v0, v1, v2, v3, v4, some v, v6, v7⟩) c6 v, c7, h⟩) t v⟩,
  ⟨fun t v => Ev.rec (motive := fun _ => Value → Ev) (fun c0 c1 c2 c3 c4 c5 c6 c7 h v => ⟨c0, c1, c2, c3, c4, c5, L8.rec (motive := fun _ => Value → L8) (fun v0 v1 v2 v3 v4 v5 _ v7 v => ⟨v0, v1, v2, v3, v4, v5, some v, v7⟩) c6 v, c7, h⟩) t v⟩,
  ⟨fun t v => Ev.rec (motive := fun _ => Value → Ev) (fun c0 c1 c2 c3 c4 c5 c6 c7 h v => ⟨c0, c1, c2, c3, c4, c5, L8.rec (motive := fun _ => Value → L8) (fun v0 v1 v2 v3 v4 v5 v6 _ v => ⟨v0, v1, v2, v3, v4, v5, v6, some v⟩) c6 v, c7, h⟩) t v⟩,
  ⟨fun t v => Ev.rec (motive := fun _ => Value → Ev) (fun c0 c1 c2 c3 c4 c5 c6 c7 h v => ⟨c0, c1, c2, c3, c4, c5, c6, L8.rec (motive := fun _ => Value → L8) (fun _ v1 v2 v3 v4 v5 v6 v7 v => ⟨some v, v1, v2, v3, v4, v5, v6, v7⟩) c7 v, h⟩) t v⟩,
  ⟨fun t v => Ev.rec (motive := fun _ => Value → Ev) (fun c0 c1 c2 c3 c4 c5 c6 c7 h v => ⟨c0, c1, c2, c3, c4, c5, c6, L8.rec (motive := fun _ => Value → L8) (fun v0 _ v2 v3 v4 v5 v6 v7 v => ⟨v0, some v, v2, v3, v4, v5, v6, v7⟩) c7 v, h⟩) t v⟩,
  ⟨fun t v => Ev.rec (motive := fun _ => Value → Ev) (fun c0 c1 c2 c3 c4 c5 c6 c7 h v => ⟨c0, c1, c2, c3, c4, c5, c6, L8.rec (motive := fun _ => Value → L8) (fun v0 v1 _ v3 v4 v5 v6 v7 v => ⟨v0, v1, some v, v3, v4, v5, v6, v7⟩) c7 v, h⟩) t v⟩,
  ⟨fun t v => Ev.rec (motive := fun _ => Value → Ev) (fun c0 c1 c2 c3 c4 c5 c6 c7 h v => ⟨c0, c1, c2, c3, c4, c5, c6, L8.rec (motive := fun _ => Value → L8) (fun v0 v1 v2 _ v4 v5 v6 v7 v => ⟨v0, v1, v2, some v, v4, v5, v6, v7⟩) c7 v, h⟩) t v⟩,
  ⟨fun t v => Ev.rec (motive := fun _ => Value → Ev) (fun c0 c1 c2 c3 c4 c5 c6 c7 h v => ⟨c0, c1, c2, c3, c4, c5, c6, L8.rec (motive := fun _ => Value → L8) (fun v0 v1 v2 v3 _ v5 v6 v7 v => ⟨v0, v1, v2, v3, some v, v5, v6, v7⟩) c7 v, h⟩) t v⟩,
  ⟨fun t v => Ev.rec (motive := fun _ => Value → Ev) (fun c0 c1 c2 c3 c4 c5 c6 c7 h v => ⟨c0, c1, c2, c3, c4, c5, c6, L8.rec (motive := fun _ => Value → L8) (fun v0 v1 v2 v3 v4 _ v6 v7 v => ⟨v0, v1, v2, v3, v4, some v, v6, v7⟩) c7 v, h⟩) t v⟩,
  ⟨fun t v => Ev.rec (motive := fun _ => Value → Ev) (fun c0 c1 c2 c3 c4 c5 c6 c7 h v => ⟨c0, c1, c2, c3, c4, c5, c6, L8.rec (motive := fun _ => Value → L8) (fun v0 v1 v2 v3 v4 v5 _ v7 v => ⟨v0, v1, v2, v3, v4, v5, some v, v7⟩) c7 v, h⟩) t v⟩,
  ⟨fun t v => Ev.rec (motive := fun _ => Value → Ev) (fun c0 c1 c2 c3 c4 c5 c6 c7 h v => ⟨c0, c1, c2, c3, c4, c5, c6, L8.rec (motive := fun _ => Value → L8) (fun v0 v1 v2 v3 v4 v5 v6 _ v => ⟨v0, v1, v2, v3, v4, v5, v6, some v⟩) c7 v, h⟩) t v⟩]

noncomputable def gHi (s : Nat) : G := ⟨fun _ t k => Option.rec (motive := fun _ => Ans) none k ((Ev.hi t).get s)⟩
noncomputable def sHi (s : Nat) : S0 := ⟨fun t v => Ev.rec (motive := fun _ => Ev) (fun c0 c1 c2 c3 c4 c5 c6 c7 h => ⟨c0, c1, c2, c3, c4, c5, c6, c7, Tr.set (s + 1) h s (some v)⟩) t⟩
noncomputable def gNo : G := ⟨fun _ _ _ => none⟩
noncomputable def headD {α : Type} (d : α) (l : List α) : α := List.rec (motive := fun _ => α) d (fun a _ _ => a) l
noncomputable def gEnv (s : Nat) : G := Bool.rec (motive := fun _ => G) (gHi (s - 64)) (headD gNo (lDrop gTab s)) (Nat.ble (Nat.succ s) 64)
noncomputable def sEnv0 (s : Nat) : S0 := Bool.rec (motive := fun _ => S0) (sHi (s - 64)) (headD ⟨fun t _ => t⟩ (lDrop sTab s)) (Nat.ble (Nat.succ s) 64)
noncomputable def sOf (x : S0) : S := ⟨S0.rec (motive := fun _ => Ev → Value → Ev) (fun s => s) x, fun kk b st t M v => kk b (v :: st) (S0.rec (motive := fun _ => Ev → Value → Ev) (fun s => s) x t v) M⟩
noncomputable def sEnv (s : Nat) : S := sOf (sEnv0 s)
noncomputable def sSame : S := ⟨fun t _ => t, fun kk b st t M v => kk b (v :: st) t M⟩
noncomputable def lHead (d : Ans) (k : KV) (l : List Value) : Ans := List.rec (motive := fun _ => Ans → KV → Ans) (fun d _ => d) (fun v _ _ _ k => k v) l d k
/-- what the region itself made, by its place from the last one on -/
noncomputable def stAt (n : Nat) : List Value → KV → Ans := Nat.rec (motive := fun _ => List Value → KV → Ans) (fun st k => lHead none k st) (fun _ ih st k => List.rec (motive := fun _ => Ans) none (fun _ r _ => ih r k) st) n
/-- where in the region a temporary was made -/
def spot (s : Nat) : List (Option Nat) → Option Nat
  | [] => none
  | some d :: l => bif Nat.beq d s then some 0 else (spot s l).map Nat.succ
  | none :: l => (spot s l).map Nat.succ
noncomputable def gSt (n : Nat) : G := ⟨fun st _ k => stAt n st k⟩
noncomputable def gSt0 : G := ⟨fun st _ k => List.rec (motive := fun _ => KV → Ans) (fun _ => none) (fun v _ _ k => k v) st k⟩
noncomputable def gSt1 : G := ⟨fun st _ k => List.rec (motive := fun _ => KV → Ans) (fun _ => none) (fun _ r _ k => List.rec (motive := fun _ => KV → Ans) (fun _ => none) (fun v _ _ k => k v) r k) st k⟩
noncomputable def gSt2 : G := ⟨fun st _ k => List.rec (motive := fun _ => KV → Ans) (fun _ => none) (fun _ r _ k => List.rec (motive := fun _ => KV → Ans) (fun _ => none) (fun _ r _ k => List.rec (motive := fun _ => KV → Ans) (fun _ => none) (fun v _ _ k => k v) r k) r k) st k⟩
noncomputable def gSt3 : G := ⟨fun st _ k => List.rec (motive := fun _ => KV → Ans) (fun _ => none) (fun _ r _ k => List.rec (motive := fun _ => KV → Ans) (fun _ => none) (fun _ r _ k => List.rec (motive := fun _ => KV → Ans) (fun _ => none) (fun _ r _ k => List.rec (motive := fun _ => KV → Ans) (fun _ => none) (fun v _ _ k => k v) r k) r k) r k) st k⟩
noncomputable def gStk (n : Nat) : G := Nat.rec (motive := fun _ => G) gSt0 (fun n _ => Nat.rec (motive := fun _ => G) gSt1 (fun m _ => Nat.rec (motive := fun _ => G) gSt2 (fun j _ => Nat.rec (motive := fun _ => G) gSt3 (fun i _ => gSt (Nat.succ (Nat.succ (Nat.succ (Nat.succ i))))) j) m) n) n
noncomputable def zTmp (ds : List (Option Nat)) (s : Nat) : G := Option.rec (motive := fun _ => G) (gEnv s) (fun n => gStk n) (spot s ds)
noncomputable def zOp (ds : List (Option Nat)) (x : Operand) : G := Operand.rec (motive := fun _ => G) (fun s => zTmp ds s) (fun v => Bool.rec (motive := fun _ => G) gNo ⟨fun _ _ k => k v⟩ (plain v))
  (fun _ => gNo) (fun f => ⟨fun _ _ k => k (.func (.func f) #[] #[])⟩) x
/-- a result's place: only what is read elsewhere is written down (K: a row of bits) -/
noncomputable def zDst (K : Nat) (d : Option Nat) : S := Option.rec (motive := fun _ => S) sSame (fun d => Bool.rec (motive := fun _ => S) sSame (sEnv d) (Nat.testBit K d)) d
/-- operands, for what is told slowly -/
def L8.at (l : L8) : Nat → Option Value
  | 0 => l.v0 | 1 => l.v1 | 2 => l.v2 | 3 => l.v3 | 4 => l.v4 | 5 => l.v5 | 6 => l.v6 | 7 => l.v7 | _ => none
def Ev.leaf (t : Ev) : Nat → L8
  | 0 => t.c0 | 1 => t.c1 | 2 => t.c2 | 3 => t.c3 | 4 => t.c4 | 5 => t.c5 | 6 => t.c6 | 7 => t.c7 | _ => .nil
def Ev.get (t : Ev) (s : Nat) : Option Value := bif Nat.ble (s + 1) 64 then (t.leaf (s / 8)).at (s % 8) else t.hi.get (s - 64)
def locGet : List (Option Nat) → List Value → Nat → Option Value
  | some d :: ds, v :: st, s => bif Nat.beq d s then some v else locGet ds st s
  | none :: ds, _ :: st, s => locGet ds st s
  | _, _, _ => none
def evS (ds : List (Option Nat)) (st : List Value) (t : Ev) : Operand → Option Value
  | .tmp s => match spot s ds with
    | some _ => locGet ds st s
    | none => t.get s
  | .const v => bif plain v then some v else none
  | .func f => some (.func (.func f) #[] #[])
  | .global _ => none

/-! ### values -/
/-- a whole number that is not below nought -/
noncomputable def vNat (d : Ans) (f : IntKind → Nat → Ans) (v : Value) : Ans := Value.rec (motive_1 := fun _ => Ans → (IntKind → Nat → Ans) → Ans) (motive_2 := fun _ => Ans → (IntKind → Nat → Ans) → Ans) (motive_3 := fun _ => Ans → (IntKind → Nat → Ans) → Ans)
  (fun _ d _ => d) (fun k n d f => Int.rec (motive := fun _ => IntKind → Ans → (IntKind → Nat → Ans) → Ans) (fun m k _ f => f k m) (fun _ _ d _ => d) n k d f) (fun _ _ d _ => d) (fun _ _ _ d _ => d) (fun _ d _ => d) (fun _ d _ => d) (fun _ _ _ d _ => d) (fun _ d _ => d) (fun _ d _ => d) (fun _ _ _ _ _ d _ => d) (fun d _ => d) (fun _ _ _ d _ => d) (fun d _ => d) (fun _ _ d _ => d) (fun _ _ d _ => d) (fun _ _ d _ => d) (fun d _ => d) (fun _ _ _ _ d _ => d) v d f
noncomputable def vBool (d : Ans) (f : Bool → Ans) (v : Value) : Ans := Value.rec (motive_1 := fun _ => Ans → (Bool → Ans) → Ans) (motive_2 := fun _ => Ans → (Bool → Ans) → Ans) (motive_3 := fun _ => Ans → (Bool → Ans) → Ans)
  (fun b d f => f b) (fun _ _ d _ => d) (fun _ _ d _ => d) (fun _ _ _ d _ => d) (fun _ d _ => d) (fun _ d _ => d) (fun _ _ _ d _ => d) (fun _ d _ => d) (fun _ d _ => d) (fun _ _ _ _ _ d _ => d) (fun d _ => d) (fun _ _ _ d _ => d) (fun d _ => d) (fun _ _ d _ => d) (fun _ _ d _ => d) (fun _ _ d _ => d) (fun d _ => d) (fun _ _ _ _ d _ => d) v d f
noncomputable def vPtr (d : Ans) (f : Nat → Nat → Ans) (v : Value) : Ans := Value.rec (motive_1 := fun _ => Ans → (Nat → Nat → Ans) → Ans) (motive_2 := fun _ => Ans → (Nat → Nat → Ans) → Ans) (motive_3 := fun _ => Ans → (Nat → Nat → Ans) → Ans)
  (fun _ d _ => d) (fun _ _ d _ => d) (fun _ _ d _ => d) (fun _ _ _ d _ => d) (fun _ d _ => d) (fun a d f => Option.rec (motive := fun _ => Ans → (Nat → Nat → Ans) → Ans) (fun  d _ => d) (fun x  d f => Addr.rec (motive := fun _ => Ans → (Nat → Nat → Ans) → Ans) (fun b o sp  d f => Option.rec (motive := fun _ => Nat → Nat → Ans → (Nat → Nat → Ans) → Ans) (fun b o  _ f => f b o) (fun _ _ _  d _ => d) sp b o  d f) x  d f) a  d f) (fun _ _ _ d _ => d) (fun _ d _ => d) (fun _ d _ => d) (fun _ _ _ _ _ d _ => d) (fun d _ => d) (fun _ _ _ d _ => d) (fun d _ => d) (fun _ _ d _ => d) (fun _ _ d _ => d) (fun _ _ d _ => d) (fun d _ => d) (fun _ _ _ _ d _ => d) v d f
/-- a slice that is not nil: its block, how far in, its length, its room -/
noncomputable def vSl (d : Ans) (f : Nat → Nat → Nat → Nat → Ans) (v : Value) : Ans := Value.rec (motive_1 := fun _ => Ans → (Nat → Nat → Nat → Nat → Ans) → Ans) (motive_2 := fun _ => Ans → (Nat → Nat → Nat → Nat → Ans) → Ans) (motive_3 := fun _ => Ans → (Nat → Nat → Nat → Nat → Ans) → Ans)
  (fun _ d _ => d) (fun _ _ d _ => d) (fun _ _ d _ => d) (fun _ _ _ d _ => d) (fun _ d _ => d) (fun _ d _ => d) (fun a n c d f => Option.rec (motive := fun _ => Nat → Nat → Ans → (Nat → Nat → Nat → Nat → Ans) → Ans) (fun _ _ d _ => d) (fun x n c d f => Addr.rec (motive := fun _ => Nat → Nat → Ans → (Nat → Nat → Nat → Nat → Ans) → Ans) (fun b o sp n c d f => Option.rec (motive := fun _ => Nat → Nat → Nat → Nat → Ans → (Nat → Nat → Nat → Nat → Ans) → Ans) (fun b o n c _ f => f b o n c) (fun _ _ _ _ _ d _ => d) sp b o n c d f) x n c d f) a n c d f) (fun _ d _ => d) (fun _ d _ => d) (fun _ _ _ _ _ d _ => d) (fun d _ => d) (fun _ _ _ d _ => d) (fun d _ => d) (fun _ _ d _ => d) (fun _ _ d _ => d) (fun _ _ d _ => d) (fun d _ => d) (fun _ _ _ _ d _ => d) v d f
noncomputable def vLen (d : Ans) (f : Nat → Ans) (v : Value) : Ans := Value.rec (motive_1 := fun _ => Ans → (Nat → Ans) → Ans) (motive_2 := fun _ => Ans → (Nat → Ans) → Ans) (motive_3 := fun _ => Ans → (Nat → Ans) → Ans)
  (fun _ d _ => d) (fun _ _ d _ => d) (fun _ _ d _ => d) (fun _ _ _ d _ => d) (fun _ d _ => d) (fun _ d _ => d) (fun a n c d f => f n) (fun _ d _ => d) (fun _ d _ => d) (fun _ _ _ _ _ d _ => d) (fun d _ => d) (fun _ _ _ d _ => d) (fun d _ => d) (fun _ _ d _ => d) (fun _ _ d _ => d) (fun _ _ d _ => d) (fun d _ => d) (fun _ _ _ _ d _ => d) v d f
noncomputable def vTup (d : Ans) (f : List Value → Ans) (v : Value) : Ans := Value.rec (motive_1 := fun _ => Ans → (List Value → Ans) → Ans) (motive_2 := fun _ => Ans → (List Value → Ans) → Ans) (motive_3 := fun _ => Ans → (List Value → Ans) → Ans)
  (fun _ d _ => d) (fun _ _ d _ => d) (fun _ _ d _ => d) (fun _ _ _ d _ => d) (fun _ d _ => d) (fun _ d _ => d) (fun _ _ _ d _ => d) (fun _ d _ => d) (fun _ d _ => d) (fun _ _ _ _ _ d _ => d) (fun d _ => d) (fun _ _ _ d _ => d) (fun d _ => d) (fun _ _ d _ => d) (fun vs hv d f => f (Array.toList vs)) (fun _ _ d _ => d) (fun d _ => d) (fun _ _ _ _ d _ => d) v d f
noncomputable def vAgg (d : Ans) (f : List Value → Ans) (v : Value) : Ans := Value.rec (motive_1 := fun _ => Ans → (List Value → Ans) → Ans) (motive_2 := fun _ => Ans → (List Value → Ans) → Ans) (motive_3 := fun _ => Ans → (List Value → Ans) → Ans)
  (fun _ d _ => d) (fun _ _ d _ => d) (fun _ _ d _ => d) (fun _ _ _ d _ => d) (fun _ d _ => d) (fun _ d _ => d) (fun _ _ _ d _ => d) (fun _ d _ => d) (fun _ d _ => d) (fun _ _ _ _ _ d _ => d) (fun d _ => d) (fun _ _ _ d _ => d) (fun d _ => d) (fun vs hv d f => f (Array.toList vs)) (fun _ _ d _ => d) (fun _ _ d _ => d) (fun d _ => d) (fun _ _ _ _ d _ => d) v d f
/-- a value of one cell -/
noncomputable def vOne (d k : Ans) (v : Value) : Ans := Value.rec (motive_1 := fun _ => Ans → Ans → Ans) (motive_2 := fun _ => Ans → Ans → Ans) (motive_3 := fun _ => Ans → Ans → Ans)
  (fun _ d k => k) (fun _ _ d k => k) (fun _ _ d k => k) (fun _ _ _ d k => k) (fun _ d k => k) (fun _ d k => k) (fun _ _ _ d k => k) (fun _ d k => k) (fun _ d k => k) (fun _ _ _ _ _ d k => k) (fun  d k => k) (fun _ _ _ d k => k) (fun  d k => k) (fun _ _ d k => d) (fun _ _ d k => d) (fun _ _ d _ => d) (fun d _ => d) (fun _ _ _ _ d _ => d) v d k
/-- a slice, nil or not -/
noncomputable def vSlc (d : Ans) (nil : Unit → Ans) (f : Nat → Nat → Nat → Nat → Ans) (v : Value) : Ans := Value.rec (motive_1 := fun _ => Ans → (Unit → Ans) → (Nat → Nat → Nat → Nat → Ans) → Ans) (motive_2 := fun _ => Ans → (Unit → Ans) → (Nat → Nat → Nat → Nat → Ans) → Ans) (motive_3 := fun _ => Ans → (Unit → Ans) → (Nat → Nat → Nat → Nat → Ans) → Ans)
  (fun _ d _ _ => d) (fun _ _ d _ _ => d) (fun _ _ d _ _ => d) (fun _ _ _ d _ _ => d) (fun _ d _ _ => d) (fun _ d _ _ => d) (fun a n c d g f => Option.rec (motive := fun _ => Nat → Nat → Ans → (Unit → Ans) → (Nat → Nat → Nat → Nat → Ans) → Ans) (fun _ _ _ g _ => g ()) (fun x n c d g f => Addr.rec (motive := fun _ => Nat → Nat → Ans → (Unit → Ans) → (Nat → Nat → Nat → Nat → Ans) → Ans) (fun b o sp n c d g f => Option.rec (motive := fun _ => Nat → Nat → Nat → Nat → Ans → (Unit → Ans) → (Nat → Nat → Nat → Nat → Ans) → Ans) (fun b o n c _ _ f => f b o n c) (fun _ _ _ _ _ d _ _ => d) sp b o n c d g f) x n c d g f) a n c d g f) (fun _ d _ _ => d) (fun _ d _ _ => d) (fun _ _ _ _ _ d _ _ => d) (fun  d _ _ => d) (fun _ _ _ d _ _ => d) (fun  d _ _ => d) (fun _ _ d _ _ => d) (fun _ _ d _ _ => d) (fun _ _ d _ _ => d) (fun d _ _ => d) (fun _ _ _ _ d _ _ => d) v d nil f
noncomputable def one1 (v : Value) : Bool := Value.rec (motive_1 := fun _ => Bool) (motive_2 := fun _ => Bool) (motive_3 := fun _ => Bool)
  (fun _ => true) (fun _ _ => true) (fun _ _ => true) (fun _ _ _ => true) (fun _ => true) (fun _ => true) (fun _ _ _ => true) (fun _ => true) (fun _ => true) (fun _ _ _ _ _ => true) true (fun _ _ _ => true) true (fun _ _ => false) (fun _ _ => false) (fun _ _ => false) false (fun _ _ _ _ => false) v

noncomputable def kc (k : IntKind) : Nat := IntKind.rec (motive := fun _ => Nat) 0 1 2 3 4 5 6 7 k
noncomputable def kmax (k : IntKind) : Nat := IntKind.rec (motive := fun _ => Nat) 127 32767 2147483647 9223372036854775807 255 65535 4294967295 18446744073709551615 k
noncomputable def oK (d : Ans) (k : KV) (o : Option Value) : Ans := Option.rec (motive := fun _ => Ans) d k o
/-- two naturals of a kind -/
noncomputable def zNN (slow : Ans) (f : IntKind → Nat → Nat → Ans) (a b : Value) : Ans := vNat slow (fun ka m => vNat slow (fun kb n => Bool.rec (motive := fun _ => Ans) slow (f ka m n) (Nat.beq (kc ka) (kc kb))) b) a
/-- two naturals of any kinds -/
noncomputable def zN2 (slow : Ans) (f : IntKind → Nat → Nat → Ans) (a b : Value) : Ans := vNat slow (fun ka m => vNat slow (fun _ n => f ka m n) b) a
noncomputable def zFit (slow : Ans) (k : KV) (ka : IntKind) (n : Nat) : Ans := Bool.rec (motive := fun _ => Ans) slow (k (.int ka (.ofNat n))) (Nat.ble n (kmax ka))
abbrev Bin := Value → Value → KV → Ans
structure BB where
  run : Bin
noncomputable def zGen2 (f : Value → Value → Option Value) : Bin := fun a b k => oK none k (f a b)
noncomputable def zBin (P : Program) (op : BinOp) (t : TypeId) : BB := BinOp.rec (motive := fun _ => BB)
  ⟨fun a b k => zNN (zGen2 (binV P .add t) a b k) (fun ka m n => zFit (zGen2 (binV P .add t) a b k) k ka (Nat.add m n)) a b⟩
  ⟨fun a b k => zNN (zGen2 (binV P .sub t) a b k) (fun ka m n => Bool.rec (motive := fun _ => Ans) (zGen2 (binV P .sub t) a b k) (zFit (zGen2 (binV P .sub t) a b k) k ka (Nat.sub m n)) (Nat.ble n m)) a b⟩
  ⟨fun a b k => zNN (zGen2 (binV P .mul t) a b k) (fun ka m n => zFit (zGen2 (binV P .mul t) a b k) k ka (Nat.mul m n)) a b⟩
  ⟨fun a b k => zNN (zGen2 (binV P .quo t) a b k) (fun ka m n => Bool.rec (motive := fun _ => Ans) (zFit (zGen2 (binV P .quo t) a b k) k ka (Nat.div m n)) (zGen2 (binV P .quo t) a b k) (Nat.beq n 0)) a b⟩
  ⟨fun a b k => zNN (zGen2 (binV P .rem t) a b k) (fun ka m n => Bool.rec (motive := fun _ => Ans) (k (.int ka (.ofNat (Nat.mod m n)))) (zGen2 (binV P .rem t) a b k) (Nat.beq n 0)) a b⟩
  ⟨fun a b k => zNN (zGen2 (binV P .and t) a b k) (fun ka m n => Bool.rec (motive := fun _ => Ans) (zGen2 (binV P .and t) a b k) (Bool.rec (motive := fun _ => Ans) (zGen2 (binV P .and t) a b k) (zFit (zGen2 (binV P .and t) a b k) k ka (Nat.land m n)) (Nat.ble n (kmax ka))) (Nat.ble m (kmax ka))) a b⟩
  ⟨fun a b k => zNN (zGen2 (binV P .or t) a b k) (fun ka m n => Bool.rec (motive := fun _ => Ans) (zGen2 (binV P .or t) a b k) (Bool.rec (motive := fun _ => Ans) (zGen2 (binV P .or t) a b k) (zFit (zGen2 (binV P .or t) a b k) k ka (Nat.lor m n)) (Nat.ble n (kmax ka))) (Nat.ble m (kmax ka))) a b⟩
  ⟨fun a b k => zNN (zGen2 (binV P .xor t) a b k) (fun ka m n => Bool.rec (motive := fun _ => Ans) (zGen2 (binV P .xor t) a b k) (Bool.rec (motive := fun _ => Ans) (zGen2 (binV P .xor t) a b k) (zFit (zGen2 (binV P .xor t) a b k) k ka (Nat.xor m n)) (Nat.ble n (kmax ka))) (Nat.ble m (kmax ka))) a b⟩
  ⟨fun a b k => zN2 (zGen2 (binV P .shl t) a b k) (fun ka m n => Bool.rec (motive := fun _ => Ans) (zGen2 (binV P .shl t) a b k) (zFit (zGen2 (binV P .shl t) a b k) k ka (Nat.mul m (Nat.pow 2 n))) (Nat.ble n 7)) a b⟩
  ⟨fun a b k => zN2 (zGen2 (binV P .shr t) a b k) (fun ka m n => Bool.rec (motive := fun _ => Ans) (zGen2 (binV P .shr t) a b k) (k (.int ka (.ofNat (Nat.div m (Nat.pow 2 n))))) (Nat.ble n 7)) a b⟩
  ⟨fun a b k => zGen2 (binV P .andNot t) a b k⟩
  ⟨fun a b k => zNN (zGen2 (binV P .eql t) a b k) (fun ka m n => k (.bool (Nat.beq m n))) a b⟩
  ⟨fun a b k => zNN (zGen2 (binV P .neq t) a b k) (fun ka m n => k (.bool (Bool.rec (motive := fun _ => Bool) true false (Nat.beq m n)))) a b⟩
  ⟨fun a b k => zNN (zGen2 (binV P .lss t) a b k) (fun ka m n => k (.bool (Nat.ble (Nat.succ m) n))) a b⟩
  ⟨fun a b k => zNN (zGen2 (binV P .leq t) a b k) (fun ka m n => k (.bool (Nat.ble m n))) a b⟩
  ⟨fun a b k => zNN (zGen2 (binV P .gtr t) a b k) (fun ka m n => k (.bool (Nat.ble (Nat.succ n) m))) a b⟩
  ⟨fun a b k => zNN (zGen2 (binV P .geq t) a b k) (fun ka m n => k (.bool (Nat.ble n m))) a b⟩
  op

/-! ### memory -/
noncomputable def tGet (t : Tri) : Nat → Option Blk := Tri.rec (motive := fun _ => Nat → Option Blk) (fun _ => none)
  (fun _ v _ l r k => Bool.rec (motive := fun _ => Option Blk) (Bool.rec (motive := fun _ => Option Blk) (r (Nat.sub (Nat.div k 2) 1)) (l (Nat.div k 2)) (Nat.beq (Nat.mod k 2) 1)) v (Nat.beq k 0)) t
noncomputable def tSet (f : Nat) : Tri → Nat → Option Blk → Tri := Nat.rec (motive := fun _ => Tri → Nat → Option Blk → Tri) (fun t _ _ => t)
  (fun _ ih t k b => Tri.rec (motive := fun _ => Tri)
    (Bool.rec (motive := fun _ => Tri) (Bool.rec (motive := fun _ => Tri) (.node .nil none (ih .nil (Nat.sub (Nat.div k 2) 1) b)) (.node (ih .nil (Nat.div k 2) b) none .nil) (Nat.beq (Nat.mod k 2) 1)) (.node .nil b .nil) (Nat.beq k 0))
    (fun l v r _ _ => Bool.rec (motive := fun _ => Tri) (Bool.rec (motive := fun _ => Tri) (.node l v (ih r (Nat.sub (Nat.div k 2) 1) b)) (.node (ih l (Nat.div k 2) b) v r) (Nat.beq (Nat.mod k 2) 1)) (.node l b r) (Nat.beq k 0)) t) f
noncomputable def mPut (M : Mem) (i : Nat) (b : Blk) : Mem := Mem.rec (motive := fun _ => Nat → Blk → Mem) (fun n t i b => ⟨n, tSet (Nat.succ i) t i (some b)⟩) M i b
noncomputable def mBump (M : Mem) (k : Nat) : Mem := Mem.rec (motive := fun _ => Mem) (fun n t => ⟨Nat.add n k, t⟩) M
noncomputable def lSet (v : Value) (l : List Value) : Nat → List Value := List.rec (motive := fun _ => Nat → List Value) (fun _ => []) (fun c l ih n => Nat.rec (motive := fun _ => List Value) (v :: l) (fun m _ => c :: ih m) n) l
/-- the cells of a block of rows, its type, whether it may be written -/
noncomputable def zRow (d : Ans) (f : List Value → TypeId → Bool → Ans) (M : Mem) (b : Nat) : Ans := Mem.rec (motive := fun _ => Nat → Ans → (List Value → TypeId → Bool → Ans) → Ans) (fun _ t b d f => Option.rec (motive := fun _ => Ans → (List Value → TypeId → Bool → Ans) → Ans) (fun d _ => d)
  (fun x d f => Blk.rec (motive := fun _ => Ans → (List Value → TypeId → Bool → Ans) → Ans) (fun cs e rw d f => Bool.rec (motive := fun _ => Ans) (f cs e rw) d (Nat.ble mapTag e)) x d f) (tGet t b) d f) M b d f
/-! ### the program's tables, by what stands behind those ahead -/
noncomputable def infoZ (P : Program) (t : TypeId) : Option TypeInfo := List.rec (motive := fun _ => Option TypeInfo) (P.info? t) (fun a _ _ => some a) (lDrop P.types.toList t)
noncomputable def underZ (P : Program) (t : TypeId) : Option TypeDesc := match infoZ P t with
  | some { desc := .named _ u, .. } => (infoZ P u).map (·.desc)
  | some i => some i.desc
  | none => none
noncomputable def zeroZ (P : Program) (t : TypeId) : Option (Array Value) := match infoZ P t with
  | some i => match i.zero with
    | some z => bif plains z.cells then some z.cells else none
    | none => none
  | none => none
noncomputable def kindZ (P : Program) (o : Oper) : Kind := match o.op with
  | .alloc _ | .box _ _ | .buildSlice _ _ _ | .makeSlice _ _ _ | .makeMap _ _ => .alloc
  | .load _ _ => .read
  | .lookup _ _ _ _ => .read
  | .entry _ => .read
  | .mapUpdate _ _ _ _ => .eff
  | .range _ _ => .eff
  | .next _ _ => .eff
  | .slice t _ _ _ _ => match underZ P t with
    | some (.slice _) => .read
    | _ => .pure
  | .convert src dst _ => match underZ P src, underZ P dst with
    | some (.slice _), _ => .read
    | some .string, some (.slice _) => .alloc
    | _, _ => .pure
  | .store _ _ _ => .eff
  | .call c => match c.callee with
    | .builtin b => match b with
      | .min | .max | .cap => .pure
      | .len => match c.argTypes.toList with
        | [t] => match underZ P t with
          | some (.map _ _) => .read
          | _ => .pure
        | _ => .pure
      | _ => .eff
    | _ => .call
  | _ => .pure

noncomputable def nAlZ (P : Program) (l : List Oper) : Nat := List.rec (motive := fun _ => Nat) 0 (fun o _ ih => Kind.rec (motive := fun _ => Nat) ih ih (Nat.succ ih) ih ih (kindZ P o)) l
structure LD where
  run : Mem → Value → KV → Ans
/-- one cell is read -/
noncomputable def zLoad1 (slow : Mem → Value → KV → Ans) : LD := ⟨fun M x k => vPtr (slow M x k) (fun b o => zRow (slow M x k) (fun cs _ _ => lHead (slow M x k) k (lDrop cs o)) M b) x⟩
noncomputable def zLoadG (P : Program) (t : TypeId) : Mem → Value → KV → Ans := fun M x k => oK none k (loadV P M.get t x)
noncomputable def zLoad (P : Program) (t : TypeId) : LD := match underZ P t, infoZ P t with
  | some d, some _ => bif aggT d then ⟨zLoadG P t⟩ else zLoad1 (zLoadG P t)
  | _, _ => ⟨zLoadG P t⟩

/-! ### operations -/
structure CC where
  call : FuncId → List Value → Mem → Ans
  seq : FuncId → Array Value → Mem → Option Mem
  dfc : FuncId → Array Value → Mem → Option Mem
abbrev Run := CC → KT → Nat → List Value → Ev → Mem → Ans
structure C where
  run : Run
/-- a value is made -/
noncomputable def zPut (s : S) (kk : KT) (b : Nat) (st : List Value) (t : Ev) (M : Mem) (v : Value) : Ans := S.rec (motive := fun _ => KT → Nat → List Value → Ev → Mem → Value → Ans) (fun _ p => p) s kk b st t M v
noncomputable def z1 (g : G) (s : S) : C := ⟨fun _ kk b st t M => G.rec (motive := fun _ => List Value → Ev → KV → Ans) (fun g => g) g st t (zPut s kk b st t M)⟩
structure UU where
  run : Value → KV → Ans
noncomputable def zU (g : G) (f : UU) (s : S) : C := ⟨fun _ kk b st t M => G.rec (motive := fun _ => List Value → Ev → KV → Ans) (fun g => g) g st t fun x => UU.rec (motive := fun _ => Value → KV → Ans) (fun f => f) f x (zPut s kk b st t M)⟩
noncomputable def zB (g h : G) (f : BB) (s : S) : C := ⟨fun _ kk b st t M => G.rec (motive := fun _ => List Value → Ev → KV → Ans) (fun g => g) g st t fun x => G.rec (motive := fun _ => List Value → Ev → KV → Ans) (fun g => g) h st t fun y => BB.rec (motive := fun _ => Bin) (fun f => f) f x y (zPut s kk b st t M)⟩
noncomputable def zPick (g h i : G) (s : S) : C := ⟨fun _ kk b st t M => G.rec (motive := fun _ => List Value → Ev → KV → Ans) (fun g => g) g st t fun x => G.rec (motive := fun _ => List Value → Ev → KV → Ans) (fun g => g) h st t fun y => G.rec (motive := fun _ => List Value → Ev → KV → Ans) (fun g => g) i st t fun z => vBool none (fun c => Bool.rec (motive := fun _ => Ans) (zPut s kk b st t M z) (zPut s kk b st t M y) c) x⟩
noncomputable def zM (g : G) (f : LD) (s : S) : C := ⟨fun _ kk b st t M => G.rec (motive := fun _ => List Value → Ev → KV → Ans) (fun g => g) g st t fun x => LD.rec (motive := fun _ => Mem → Value → KV → Ans) (fun f => f) f M x (zPut s kk b st t M)⟩
noncomputable def zPureG (P : Program) (ds : List (Option Nat)) (o : Oper) (s : S) : C := ⟨fun _ kk b st t M => oK none (zPut s kk b st t M) (pureV P (evS ds st t) o)⟩
noncomputable def zReadG (P : Program) (ds : List (Option Nat)) (o : Oper) (s : S) : C := ⟨fun _ kk b st t M => oK none (zPut s kk b st t M) (readV P (evS ds st t) M.get o)⟩
noncomputable def zAllocG (P : Program) (ds : List (Option Nat)) (o : Oper) (s : S) : C := ⟨fun _ kk b st t M =>
  Option.rec (motive := fun _ => Ans) none (fun p => Prod.rec (motive := fun _ => Ans) (fun bl mk => zPut s kk (Nat.succ b) st t (mPut M b bl) (mk b)) p) (allocA P (evS ds st t) o.op)⟩
noncomputable def ansK (f : Value → Mem → Ans) (a : Ans) : Ans := Option.rec (motive := fun _ => Ans) none (fun p => Prod.rec (motive := fun _ => Ans) f p) a
noncomputable def zEffG (P : Program) (ds : List (Option Nat)) (o : Oper) (s : S) : C := ⟨fun _ kk b st t M => ansK (fun v M' => zPut s kk b st t M' v) (effV P (evS ds st t) M o)⟩
noncomputable def zCallG (P : Program) (ext : ExtF) (ds : List (Option Nat)) (o : Oper) (s : S) : C := ⟨fun c kk b st t M =>
  Option.rec (motive := fun _ => Ans) (oK none (zPut s kk b st t M) (ext (evS ds st t) M o)) (fun p => Prod.rec (motive := fun _ => Ans) (fun f args => ansK (fun v M' => zPut s kk b st t M' v) (c.call f args.toList M)) p) (callOf P (evS ds st t) o)⟩
noncomputable def zGeneric (P : Program) (ext : ExtF) (ds : List (Option Nat)) (o : Oper) (s : S) : C := Kind.rec (motive := fun _ => C) (zPureG P ds o s) (zReadG P ds o s) (zAllocG P ds o s) (zEffG P ds o s) (zCallG P ext ds o s) (kindZ P o)

noncomputable def zNil : UU := ⟨fun x k => vPtr (oK none k (match x with | .pointer (some a) => some (.pointer (some a)) | _ => none)) (fun _ _ => k x) x⟩
noncomputable def zConvG (P : Program) (src dst : TypeId) : Value → KV → Ans := fun x k => oK none k (convV P src dst x)
noncomputable def zConvI (P : Program) (src dst : TypeId) (kd : IntKind) : UU := ⟨fun x k => vNat (zConvG P src dst x k) (fun _ m => zFit (zConvG P src dst x k) k kd m) x⟩
noncomputable def zOff (n : Nat) : UU := ⟨fun x k => vPtr none (fun b o => k (.pointer (some ⟨b, Nat.add o n, none⟩))) x⟩
noncomputable def zIdxG (P : Program) (t : TypeId) : Bin := fun x y k => oK none k (indexAddrV P t x y)
/-- an element of a slice -/
noncomputable def zIdxS (slow : Bin) (sz : Nat) : BB := ⟨fun x y k => vSl (slow x y k) (fun b o n _ => vNat (slow x y k) (fun _ i =>
  Bool.rec (motive := fun _ => Ans) (slow x y k) (k (.pointer (some ⟨b, Nat.add o (Nat.mul i sz), none⟩))) (Nat.ble (Nat.succ i) n)) y) x⟩
noncomputable def zIdxA (slow : Bin) (n sz : Nat) : BB := ⟨fun x y k => vPtr (slow x y k) (fun b o => vNat (slow x y k) (fun _ i =>
  Bool.rec (motive := fun _ => Ans) (slow x y k) (k (.pointer (some ⟨b, Nat.add o (Nat.mul i sz), none⟩))) (Nat.ble (Nat.succ i) n)) y) x⟩
noncomputable def zTupAt (i : Nat) : UU := ⟨fun x k => vTup none (fun l => lHead none k (lDrop l i)) x⟩
noncomputable def zLenS : UU := ⟨fun x k => vLen none (fun n => k (.int .i64 (.ofNat n))) x⟩

/-- a store of one cell -/
noncomputable def zStore1 (slow : C) (g h : G) (s : S) : C := ⟨fun c kk b st t M => G.rec (motive := fun _ => List Value → Ev → KV → Ans) (fun g => g) g st t fun x => G.rec (motive := fun _ => List Value → Ev → KV → Ans) (fun g => g) h st t fun v => vOne (C.run slow c kk b st t M) (vPtr (C.run slow c kk b st t M) (fun i o => zRow (C.run slow c kk b st t M) (fun cs e rw =>
  Bool.rec (motive := fun _ => Ans) none (lHead (C.run slow c kk b st t M) (fun _ => zPut s kk b st t (mPut M i ⟨lSet v cs o, e, true⟩) undef) (lDrop cs o)) rw) M i) x) v⟩
noncomputable def zStore (P : Program) (t : TypeId) (slow : C) (g h : G) (s : S) : C := match infoZ P t with
  | some i => bif Nat.beq i.size 1 then zStore1 slow g h s else slow
  | none => slow
/-- a variable -/
noncomputable def zBox1 (slow : C) (ty : TypeId) (g : G) (s : S) : C := ⟨fun c kk b st t M => G.rec (motive := fun _ => List Value → Ev → KV → Ans) (fun g => g) g st t fun v => vOne (C.run slow c kk b st t M) (zPut s kk (Nat.succ b) st t (mPut M b ⟨[v], ty, true⟩) (.pointer (some ⟨b, 0, none⟩))) v⟩

/-- operands, one by one -/
structure GS where
  run : List Value → Ev → (List Value → Ans) → Ans
noncomputable def gsCons (g : G) (r : GS) : GS := ⟨fun st t k => G.rec (motive := fun _ => List Value → Ev → KV → Ans) (fun g => g) g st t fun v => GS.rec (motive := fun _ => List Value → Ev → (List Value → Ans) → Ans) (fun r => r) r st t fun l => k (v :: l)⟩
noncomputable def zOps (ds : List (Option Nat)) (l : List Operand) : GS := List.rec (motive := fun _ => GS) ⟨fun _ _ k => k []⟩ (fun x _ ih => gsCons (zOp ds x) ih) l
/-- a call of a function that the code names -/
noncomputable def zCall1 (f : FuncId) (a : GS) (s : S) : C := ⟨fun c kk b st t M => GS.rec (motive := fun _ => List Value → Ev → (List Value → Ans) → Ans) (fun r => r) a st t fun l => ansK (fun v M' => zPut s kk b st t M' v) (CC.call c f l M)⟩

/-! ### rows that are made -/
noncomputable def lApp (a b : List Value) : List Value := List.rec (motive := fun _ => List Value) b (fun x _ ih => x :: ih) a
noncomputable def lTake (n : Nat) : List Value → List Value := Nat.rec (motive := fun _ => List Value → List Value) (fun _ => []) (fun _ ih l => List.rec (motive := fun _ => List Value) [] (fun a l _ => a :: ih l) l) n
noncomputable def lNil (l : List Value) : Bool := List.rec (motive := fun _ => Bool) true (fun _ _ _ => false) l
noncomputable def lRep (v : Value) (n : Nat) : List Value := Nat.rec (motive := fun _ => List Value) [] (fun _ ih => v :: ih) n
noncomputable def lOnes (l : List Value) : Bool := List.rec (motive := fun _ => Bool) true (fun v _ ih => Bool.rec (motive := fun _ => Bool) false ih (one1 v)) l
noncomputable def contK (slow : Ans) (K : Nat → List Value → Ans) (n m : Nat) (l : List Value) : Ans :=
  Bool.rec (motive := fun _ => Ans) (Bool.rec (motive := fun _ => Ans) (K n (lTake m l)) (K n l) (lNil (lDrop l m))) slow (lNil (lDrop l (Nat.sub m 1)))
/-- what a slice holds -/
noncomputable def zCont (slow : Ans) (K : Nat → List Value → Ans) (sz : Nat) (M : Mem) (x : Value) : Ans := vSlc slow (fun _ => K 0 []) (fun b o n _ =>
  Bool.rec (motive := fun _ => Ans) (zRow slow (fun cs _ _ => contK slow K n (Nat.mul n sz) (lDrop cs o)) M b) (K 0 []) (Nat.beq n 0)) x
noncomputable def mDel (M : Mem) (i : Nat) : Mem := Mem.rec (motive := fun _ => Mem) (fun n t => ⟨n, tSet (Nat.succ i) t i none⟩) M
noncomputable def zGrow (s : S) (kk : KT) (bk : Nat) (st : List Value) (t : Ev) (M : Mem) (e : TypeId) (cells : List Value) (n : Nat) : Ans :=
  Mem.rec (motive := fun _ => Ans) (fun nx tr => zPut s kk bk st t ⟨Nat.succ nx, tSet (Nat.succ nx) tr nx (some ⟨cells, e, true⟩)⟩ (.slice (some ⟨nx, 0, none⟩) n unk)) M
noncomputable def zApp2 (slow : Ans) (s : S) (kk : KT) (bk : Nat) (st : List Value) (t : Ev) (M : Mem) (e : TypeId) (bytes : Nat) (x : Value) (k : Nat) (olds : List Value) (n : Nat) (news : List Value) : Ans :=
  Bool.rec (motive := fun _ => Ans) (Bool.rec (motive := fun _ => Ans) slow
    (vSlc slow (fun _ => zGrow s kk bk st t M e (lApp olds news) (Nat.add k n)) (fun b _ k' c => Bool.rec (motive := fun _ => Ans) slow (Bool.rec (motive := fun _ => Ans) slow
        (Bool.rec (motive := fun _ => Ans)
          (zRow slow (fun _ e' rw => Bool.rec (motive := fun _ => Ans) slow (Bool.rec (motive := fun _ => Ans) slow (zGrow s kk bk st t (mDel M b) e (lApp olds news) (Nat.add k n)) (Nat.beq e' e)) rw) M b)
          (zGrow s kk bk st t M e (lApp olds news) (Nat.add k n))
          (Bool.rec (motive := fun _ => Bool) (Nat.ble (Nat.succ c) (Nat.add k n)) false (Nat.beq c unk)))
        (lOnes news)) (Nat.beq k k')) x)
    (Nat.ble (Nat.mul (Nat.add k n) bytes) 140737488355328)) (zPut s kk bk st t M x) (Nat.beq n 0)
noncomputable def zApp1 (slow : C) (g h : G) (s : S) (e : TypeId) (sz bytes : Nat) : C := ⟨fun c kk b st t M => G.rec (motive := fun _ => List Value → Ev → KV → Ans) (fun g => g) g st t fun x => G.rec (motive := fun _ => List Value → Ev → KV → Ans) (fun g => g) h st t fun y =>
  zCont (C.run slow c kk b st t M) (fun k olds => zCont (C.run slow c kk b st t M) (fun n news => zApp2 (C.run slow c kk b st t M) s kk b st t M e bytes x k olds n news) sz M y) sz M x⟩
noncomputable def zAppend (P : Program) (ds : List (Option Nat)) (slow : C) (p q : Operand) (t tx : TypeId) (s : S) : C := match underZ P t, underZ P tx with
  | some (.slice e), some d => match infoZ P e, zeroZ P e with
    | some i, some z => bif isObj e || isInt d || Nat.beq i.bytes 0 || !(Nat.beq z.size i.size) then slow else zApp1 slow (zOp ds p) (zOp ds q) s e i.size i.bytes
    | _, _ => slow
  | _, _ => slow
noncomputable def zBuild1 (slow : C) (g : GS) (s : S) (e : TypeId) (n : Nat) : C := ⟨fun c kk b st t M => GS.rec (motive := fun _ => List Value → Ev → (List Value → Ans) → Ans) (fun r => r) g st t fun vs =>
  Bool.rec (motive := fun _ => Ans) (C.run slow c kk b st t M) (zPut s kk (Nat.succ b) st t (mPut M b ⟨vs, e, true⟩) (.slice (some ⟨b, 0, none⟩) n n)) (lOnes vs)⟩
def inOrder (j : Nat) : List (Nat × Operand) → Bool
  | [] => true
  | (i, _) :: l => Nat.beq i j && inOrder (j + 1) l
noncomputable def zBuildS (P : Program) (ds : List (Option Nat)) (slow : C) (t : TypeId) (len : Nat) (parts : List (Nat × Operand)) (s : S) : C := match underZ P t with
  | some (.slice e) => match infoZ P e, zeroZ P e with
    | some i, some z => bif Nat.beq i.size 1 && Nat.ble len 16777216 && Nat.beq parts.length len && inOrder 0 parts && plains z && !(Nat.beq z.size 0) && !(isObj e) then zBuild1 slow (zOps ds (parts.map (·.2))) s e len else slow
    | _, _ => slow
  | _ => slow
noncomputable def zMake1 (slow : C) (g h : G) (s : S) (e : TypeId) (z : Value) (bytes : Nat) : C := ⟨fun c kk b st t M => G.rec (motive := fun _ => List Value → Ev → KV → Ans) (fun g => g) g st t fun x => G.rec (motive := fun _ => List Value → Ev → KV → Ans) (fun g => g) h st t fun y =>
  vNat (C.run slow c kk b st t M) (fun _ l => vNat (C.run slow c kk b st t M) (fun _ n =>
    Bool.rec (motive := fun _ => Ans) (C.run slow c kk b st t M) (Bool.rec (motive := fun _ => Ans) (C.run slow c kk b st t M) (Bool.rec (motive := fun _ => Ans) (C.run slow c kk b st t M)
      (zPut s kk (Nat.succ b) st t (mPut M b ⟨lRep z n, e, true⟩) (.slice (some ⟨b, 0, none⟩) l n))
      (Nat.ble (Nat.mul bytes n) 281474976710656)) (Nat.ble n 281474976710656)) (Nat.ble l n)) y) x⟩
noncomputable def zMakeS (P : Program) (ds : List (Option Nat)) (slow : C) (t : TypeId) (l n : Operand) (s : S) : C := match underZ P t with
  | some (.slice e) => match infoZ P e, zeroZ P e with
    | some i, some z => match z.toList with
      | [v] => bif Nat.beq i.size 1 && plains z && !(isObj e) then zMake1 slow (zOp ds l) (zOp ds n) s e v i.bytes else slow
      | _ => slow
    | _, _ => slow
  | _ => slow

noncomputable def zBuiltin (P : Program) (ds : List (Option Nat)) (b : Builtin) (slow : C) (c : Call) (s : S) : C := match b, c.args.toList, c.argTypes.toList with
  | .len, [x], [t] => match underZ P t with
    | some (.slice _) => zU (zOp ds x) zLenS s
    | _ => slow
  | .append, [p, q], [t, tx] => zAppend P ds slow p q t tx s
  | _, _, _ => slow
/-- a function of the program: by what stands behind those ahead of it -/
noncomputable def funZ (P : Program) (f : Nat) : Option Func := List.rec (motive := fun _ => Option Func) none (fun a _ _ => some a) (lDrop P.funcs.toList f)
noncomputable def callableZ (P : Program) (f : FuncId) : Bool := match funZ P f with
  | some fn => fn.body.isSome && !(fn.name == "runtime.NumGoroutine")
  | none => false
noncomputable def zCallee (P : Program) (ds : List (Option Nat)) (slow : C) (c : Call) (s : S) : C := match c.callee with
  | .value (.func f) => bif callableZ P f then zCall1 f (zOps ds c.args.toList) s else slow
  | .builtin b => zBuiltin P ds b slow c s
  | _ => slow
noncomputable def zFieldAddr (P : Program) (ds : List (Option Nat)) (slow : C) (t : TypeId) (x : Operand) (f : Nat) (s : S) : C := match underZ P t with
  | some (.struct fields) => match fields[f]? with
    | some fl => match infoZ P fl.type with
      | some i => bif Nat.beq i.size 0 then slow else zU (zOp ds x) (zOff fl.offset) s
      | none => slow
    | none => slow
  | _ => slow
noncomputable def zIndexAddr (P : Program) (ds : List (Option Nat)) (slow : C) (t : TypeId) (x i : Operand) (s : S) : C := match underZ P t with
  | some (.slice e) => match infoZ P e with
    | some inf => zB (zOp ds x) (zOp ds i) (zIdxS (zIdxG P t) inf.size) s
    | none => slow
  | some (.array n e) => match infoZ P e with
    | some inf => zB (zOp ds x) (zOp ds i) (zIdxA (zIdxG P t) n inf.size) s
    | none => slow
  | _ => slow
noncomputable def zConv (P : Program) (ds : List (Option Nat)) (slow : C) (src dst : TypeId) (x : Operand) (s : S) : C := match underZ P src, underZ P dst with
  | some (.int _), some (.int k) => zU (zOp ds x) (zConvI P src dst k) s
  | _, _ => slow
/-- an operation that has no guard -/
noncomputable def zOpen (P : Program) (ext : ExtF) (ds : List (Option Nat)) (o : Oper) (s : S) : C := match o.op with
  | .move x => z1 (zOp ds x) s
  | .assign x => z1 (zOp ds x) s
  | .pick c a b => zPick (zOp ds c) (zOp ds a) (zOp ds b) s
  | .nilCheck x => zU (zOp ds x) zNil s
  | .binOp op t x y _ => zB (zOp ds x) (zOp ds y) (zBin P op t) s
  | .convert src dst x => zConv P ds (zGeneric P ext ds o s) src dst x s
  | .fieldAddr t x f => zFieldAddr P ds (zGeneric P ext ds o s) t x f s
  | .indexAddr t x i => zIndexAddr P ds (zGeneric P ext ds o s) t x i s
  | .extract x i => zU (zOp ds x) (zTupAt i) s
  | .load t x => zM (zOp ds x) (zLoad P t) s
  | .store t x y => zStore P t (zGeneric P ext ds o s) (zOp ds x) (zOp ds y) s
  | .box t x => bif isObj t then zGeneric P ext ds o s else zBox1 (zGeneric P ext ds o s) t (zOp ds x) s
  | .call c => zCallee P ds (zGeneric P ext ds o s) c s
  | .buildSlice t len parts => zBuildS P ds (zGeneric P ext ds o s) t len parts.toList s
  | .makeSlice t l n => zMakeS P ds (zGeneric P ext ds o s) t l n s
  | _ => zGeneric P ext ds o s
noncomputable def zSkip (al : Bool) (s : S) : C := ⟨fun _ kk b st t M => Bool.rec (motive := fun _ => Ans) (zPut s kk b st t M undef) (zPut s kk (Nat.succ b) st t M undef) al⟩
noncomputable def isAl (P : Program) (o : Oper) : Bool := match kindZ P o with
  | .alloc => true
  | _ => false
noncomputable def wantS (ops : Array Oper) (ev : Operand → Option Value) (o : Oper) : Option Bool := match o.guard with
  | none => some true
  | some (j, want) => match (ops[j]?).bind (·.dst) with
    | none => some false
    | some t => match ev (.tmp t) with
      | some (.bool b) => some (b == want)
      | some (.tuple _) => some false
      | _ => none
noncomputable def wantK (none_ yes no : Ans) (w : Option Bool) : Ans := Option.rec (motive := fun _ => Ans) none_ (fun b => Bool.rec (motive := fun _ => Ans) no yes b) w
noncomputable def zGuard (ops : Array Oper) (ds : List (Option Nat)) (o : Oper) (f g : C) : C := ⟨fun c kk b st t M => wantK none (C.run f c kk b st t M) (C.run g c kk b st t M) (wantS ops (evS ds st t) o)⟩
noncomputable def zNo : C := ⟨fun _ _ _ _ _ _ => none⟩
/-- an operation -/
noncomputable def zOne (P : Program) (ext : ExtF) (ops : Array Oper) (k K : Nat) (ds : List (Option Nat)) (o : Oper) : C := bif dstLt k o.dst then match o.guard with
    | none => zOpen P ext ds o (zDst K o.dst)
    | some _ => zGuard ops ds o (zOpen P ext ds o (zDst K o.dst)) (zSkip (isAl P o) (zDst K o.dst))
  else zNo
noncomputable def zSeq (f g : C) : C := ⟨fun c kk b st t M => C.rec (motive := fun _ => Run) (fun f => f) f c (C.rec (motive := fun _ => Run) (fun f => f) g c kk) b st t M⟩
noncomputable def zList (P : Program) (ext : ExtF) (ops : Array Oper) (k K : Nat) (l : List Oper) : List (Option Nat) → C := List.rec (motive := fun _ => List (Option Nat) → C) (fun _ => ⟨fun _ kk b st t M => kk b st t M⟩) (fun o _ ih ds => zSeq (zOne P ext ops k K ds o) (ih (o.dst :: ds))) l

/-! ### operations whose order is drawn, where nothing read hangs on it: B is memory as it was behind the last operation that changes it -/
abbrev KD := Nat → List Value → Ev → Mem → Mem → Ans
abbrev RunD := CC → KD → Nat → List Value → Ev → Mem → Mem → Ans
structure D where
  run : RunD
/-- what looks at no memory, or only adds to it -/
noncomputable def dKeep (f : C) : D := ⟨fun c kk b st t M B => C.rec (motive := fun _ => Run) (fun f => f) f c (fun b st t M => kk b st t M B) b st t M⟩
noncomputable def dEff (f : C) : D := ⟨fun c kk b st t M B => C.rec (motive := fun _ => Run) (fun f => f) f c (fun b st t M => kk b st t M M) b st t M⟩
noncomputable def dPut (s : S) (kk : KD) (b : Nat) (st : List Value) (t : Ev) (M B : Mem) (v : Value) : Ans := S.rec (motive := fun _ => KT → Nat → List Value → Ev → Mem → Value → Ans) (fun _ p => p) s (fun b st t M => kk b st t M B) b st t M v
noncomputable def dRead (P : Program) (ds : List (Option Nat)) (o : Oper) (s : S) : D := ⟨fun _ kk b st t M B => oK none (dPut s kk b st t M B) (readV P (evS ds st t) B.get o)⟩
noncomputable def dLoad (g : G) (f : LD) (s : S) : D := ⟨fun _ kk b st t M B => G.rec (motive := fun _ => List Value → Ev → KV → Ans) (fun g => g) g st t fun x => LD.rec (motive := fun _ => Mem → Value → KV → Ans) (fun f => f) f B x (dPut s kk b st t M B)⟩
noncomputable def dReads (P : Program) (ds : List (Option Nat)) (o : Oper) (s : S) : D := match o.op with
  | .load t x => dLoad (zOp ds x) (zLoad P t) s
  | _ => dRead P ds o s
noncomputable def dOpen (P : Program) (ext : ExtF) (ds : List (Option Nat)) (o : Oper) (s : S) : D := match kindZ P o with
  | .pure => dKeep (zOpen P ext ds o s)
  | .read => dReads P ds o s
  | .alloc => dKeep (zOpen P ext ds o s)
  | .eff => dEff (zOpen P ext ds o s)
  | .call => dEff (zOpen P ext ds o s)
noncomputable def dSkip (P : Program) (o : Oper) (s : S) : D := match kindZ P o with
  | .pure => dKeep (zSkip false s)
  | .read => dKeep (zSkip false s)
  | .alloc => dKeep (zSkip true s)
  | .eff => dEff (zSkip false s)
  | .call => dEff (zSkip false s)
noncomputable def dGuard (ops : Array Oper) (ds : List (Option Nat)) (o : Oper) (f g : D) : D := ⟨fun c kk b st t M B => wantK none (D.run f c kk b st t M B) (D.run g c kk b st t M B) (wantS ops (evS ds st t) o)⟩
noncomputable def dOne (P : Program) (ext : ExtF) (ops : Array Oper) (K : Nat) (ds : List (Option Nat)) (o : Oper) : D := match o.guard with
    | none => dOpen P ext ds o (zDst K o.dst)
    | some _ => dGuard ops ds o (dOpen P ext ds o (zDst K o.dst)) (dSkip P o (zDst K o.dst))
noncomputable def dSeq (f g : D) : D := ⟨fun c kk b st t M B => D.rec (motive := fun _ => RunD) (fun f => f) f c (D.rec (motive := fun _ => RunD) (fun f => f) g c kk) b st t M B⟩
noncomputable def opZ (ops : Array Oper) (i : Nat) : Oper := List.rec (motive := fun _ => Oper) default (fun a _ _ => a) (lDrop ops.toList i)
noncomputable def dList (P : Program) (ext : ExtF) (ops : Array Oper) (K : Nat) (l : List Nat) : List (Option Nat) → D := List.rec (motive := fun _ => List (Option Nat) → D) (fun _ => ⟨fun _ kk b st t M B => kk b st t M B⟩) (fun i _ ih ds => dSeq (dOne P ext ops K ds (opZ ops i)) (ih ((opZ ops i).dst :: ds))) l

/-! ### which temporaries are read elsewhere -/
noncomputable def bits (l : List Operand) : Nat := List.rec (motive := fun _ => Nat) 0 (fun x _ m => Operand.rec (motive := fun _ => Nat) (fun s => Nat.lor m (Nat.shiftLeft 1 s)) (fun _ => m) (fun _ => m) (fun _ => m) x) l
noncomputable def usesR (ops : List Oper) : Nat := List.rec (motive := fun _ => Nat) 0 (fun o _ m => Nat.lor m (bits o.op.operands.toList)) ops
noncomputable def defsR (ops : List Oper) : Nat := List.rec (motive := fun _ => Nat) 0 (fun o _ m => Option.rec (motive := fun _ => Nat) m (fun d => Nat.lor m (Nat.shiftLeft 1 d)) o.dst) ops
/-- defined more than once in a region -/
noncomputable def twiceR (ops : List Oper) : Nat := List.rec (motive := fun _ => Nat) 0 (fun o l m => Option.rec (motive := fun _ => Nat) m (fun d => Nat.lor m (Nat.land (Nat.shiftLeft 1 d) (defsR l))) o.dst) ops
/-- (defined, defined twice, read where it is not defined) -/
noncomputable def scan : Code → Nat × Nat × Nat → Nat × Nat × Nat
  | .region _ ops _, (d, dd, u) => (Nat.lor d (defsR ops.toList), Nat.lor (Nat.lor dd (twiceR ops.toList)) (Nat.land d (defsR ops.toList)), Nat.lor (Nat.lor u (Nat.xor (usesR ops.toList) (Nat.land (usesR ops.toList) (defsR ops.toList)))) (match deferOf ops with | some (_, _, y) => bits [y] | none => 0))
  | .seq a b, p => scan b (scan a p)
  | .cond c a b, p => scan b (scan a (p.1, p.2.1, p.2.2 ||| bits [c]))
  | .block _ b, p => scan b p
  | .loop b, p => scan b p
  | .scope b, p => scan b p
  | .rangeFunc g _ a b, p => scan b (scan a (p.1, p.2.1, p.2.2 ||| bits [g]))
  | _, p => p
noncomputable def resBits : List ResultVar → Nat
  | [] => 0
  | .tmp s :: l => 2 ^ s ||| resBits l
  | .cell s _ :: l => 2 ^ s ||| resBits l
noncomputable def keepOf (c : Code) (n : Nat) (rs : List ResultVar) : Nat := match scan c (0, 0, 0) with
  | (_, dd, u) => dd ||| u ||| (2 ^ n - 1) ||| resBits rs

/-! ### code -/
abbrev KX := Exit → Ev → Mem → List Dfr → Ans
abbrev RunX := CC → KX → Ev → Mem → List Dfr → Ans
structure ZX where
  run : RunX
noncomputable def xNorm (y : Ev → Mem → List Dfr → Ans) (kx : KX) : KX := fun e => Exit.rec (motive := fun _ => (Ev → Mem → List Dfr → Ans) → KX → Ev → Mem → List Dfr → Ans) (fun y _ => y) (fun i _ kx => kx (.exit i)) (fun l _ kx => kx (.goto l)) (fun _ kx => kx .ret) (fun p _ kx => kx (.panic p)) (fun _ kx => kx .outgrown) e y kx
noncomputable def xSeq (f g : ZX) : ZX := ⟨fun c kx t M d => ZX.rec (motive := fun _ => RunX) (fun f => f) f c (xNorm (ZX.rec (motive := fun _ => RunX) (fun f => f) g c kx) kx) t M d⟩
noncomputable def xCond (g : G) (f h : ZX) : ZX := ⟨fun c kx t M d => G.rec (motive := fun _ => List Value → Ev → KV → Ans) (fun g => g) g [] t (vBool none fun b => Bool.rec (motive := fun _ => Ans) (ZX.rec (motive := fun _ => RunX) (fun f => f) h c kx t M d) (ZX.rec (motive := fun _ => RunX) (fun f => f) f c kx t M d) b)⟩
noncomputable def xOut (id : Nat) (kx : KX) : KX := fun e => Exit.rec (motive := fun _ => Nat → KX → Ev → Mem → List Dfr → Ans) (fun _ kx => kx .normal) (fun i id kx => Bool.rec (motive := fun _ => Ev → Mem → List Dfr → Ans) (kx (.exit i)) (kx .normal) (Nat.beq i id)) (fun l _ kx => kx (.goto l)) (fun _ kx => kx .ret) (fun p _ kx => kx (.panic p)) (fun _ kx => kx .outgrown) e id kx
noncomputable def xBlock (id : Nat) (f : ZX) : ZX := ⟨fun c kx t M d => ZX.rec (motive := fun _ => RunX) (fun f => f) f c (xOut id kx) t M d⟩
noncomputable def xLoop (n : Nat) (f : ZX) : ZX := ⟨fun c kx => Nat.rec (motive := fun _ => Ev → Mem → List Dfr → Ans) (fun _ _ _ => none) (fun _ ih t M d => ZX.rec (motive := fun _ => RunX) (fun f => f) f c (xNorm ih kx) t M d) n⟩
noncomputable def xReg (n : Nat) (f : C) : ZX := ⟨fun c kx t M d => Mem.rec (motive := fun _ => Ans) (fun nx tr => C.rec (motive := fun _ => Run) (fun f => f) f c (fun _ _ t M => kx .normal t M d) nx [] t ⟨Nat.add nx n, tr⟩) M⟩
noncomputable def xRegD (n : Nat) (f : D) : ZX := ⟨fun c kx t M d => Mem.rec (motive := fun _ => Ans) (fun nx tr => D.rec (motive := fun _ => RunD) (fun f => f) f c (fun _ _ t M _ => kx .normal t M d) nx [] t ⟨Nat.add nx n, tr⟩ ⟨Nat.add nx n, tr⟩) M⟩
/-- the region's last operation: a call that is put off -/
noncomputable def xDefer (K : Nat) (o : Oper) (y : Operand) (f : ZX) : ZX := ⟨fun c kx t M d => ZX.run f c (fun e t M d => match e with
  | .normal => match evS [] [] t y with
    | some (.func (.func g) xs cap) => bif xs.isEmpty then kx .normal (S.run (zDst K o.dst) t undef) M (.fn g cap :: d) else none
    | _ => none
  | _ => none) t M d⟩
noncomputable def xRange (P : Program) (g : Operand) : ZX := ⟨fun c kx t M d => match evS [] [] t g with
  | some (.func (.func gf) xs lb) => bif xs.isEmpty && callable P gf then match CC.seq c gf lb M with
      | some M => kx .normal t M (.coll :: d)
      | none => none
    else none
  | _ => none⟩
/-- a scope: code from a label on -/
noncomputable def xScope (n : Nat) (b : Code) (z : Code → ZX) : ZX := ⟨fun c kx t M d => Nat.rec (motive := fun _ => Code → Ev → Mem → List Dfr → Ans) (fun _ _ _ _ => none)
  (fun _ ih cur t M d => ZX.run (z cur) c (fun e t M d => match e with
    | .goto l => match findLabel b l with
      | some rest => ih rest t M d
      | none => none
    | e => kx e t M d) t M d) n b t M d⟩
noncomputable def xNo : ZX := ⟨fun _ _ _ _ _ => none⟩
/-! ### operations whose order is drawn, where what is read hangs on it: told slowly -/
def hRl (U : List (Nat × Nat)) (j : Nat) (M : Mem) : List (Nat × (Mem → Bool)) → Bool
  | [] => true
  | (i, f) :: l => (!(inP U i j) || f M) && hRl U j M l
noncomputable def hRun (P : Program) (ext : ExtF) (ops : Array Oper) (K : Nat) (A U : List (Nat × Nat)) (c : CC) (kk : Ev → Mem → Ans) : List Nat → List (Option Nat) → Nat → List Value → Ev → Mem → Mem → List (Nat × Nat × Blk) → List (Nat × Mem) → List (Nat × (Mem → Bool)) → Ans
  | [], _, _, _, t, M, _, _, _, _ => kk t M
  | i :: l, ds, b, st, t, M, B, al, log, rl => match wantS ops (evS ds st t) (opAt ops i) with
    | none => none
    | some false => match kindZ P (opAt ops i) with
      | .alloc => hRun P ext ops K A U c kk l ((opAt ops i).dst :: ds) (b + 1) (undef :: st) (S.run (zDst K (opAt ops i).dst) t undef) M B al log rl
      | .eff => bif hRl U i M rl then hRun P ext ops K A U c kk l ((opAt ops i).dst :: ds) b (undef :: st) (S.run (zDst K (opAt ops i).dst) t undef) M M [] ((i, B) :: log) rl else none
      | .call => bif hRl U i M rl then hRun P ext ops K A U c kk l ((opAt ops i).dst :: ds) b (undef :: st) (S.run (zDst K (opAt ops i).dst) t undef) M M [] ((i, B) :: log) rl else none
      | _ => hRun P ext ops K A U c kk l ((opAt ops i).dst :: ds) b (undef :: st) (S.run (zDst K (opAt ops i).dst) t undef) M B al log rl
    | some true => match kindZ P (opAt ops i) with
      | .pure => match pureV P (evS ds st t) (opAt ops i) with
        | some v => hRun P ext ops K A U c kk l ((opAt ops i).dst :: ds) b (v :: st) (S.run (zDst K (opAt ops i).dst) t v) M B al log rl
        | none => none
      | .read => match readV P (evS ds st t) (withA A al i B.get) (opAt ops i) with
        | some v => bif xLog U i (fun B' => isV (readV P (evS ds st t) (withA A al i B'.get) (opAt ops i)) v) log then
            hRun P ext ops K A U c kk l ((opAt ops i).dst :: ds) b (v :: st) (S.run (zDst K (opAt ops i).dst) t v) M B al log ((i, fun m => isV (readV P (evS ds st t) m.get (opAt ops i)) v) :: rl) else none
        | none => none
      | .alloc => match allocA P (evS ds st t) (opAt ops i).op with
        | some (bl, mk) => hRun P ext ops K A U c kk l ((opAt ops i).dst :: ds) (b + 1) (mk b :: st) (S.run (zDst K (opAt ops i).dst) t (mk b)) (mPut M b bl) B ((i, b, bl) :: al) log rl
        | none => none
      | .eff => match effV P (evS ds st t) M (opAt ops i) with
        | some (v, M') => bif hRl U i M' rl then hRun P ext ops K A U c kk l ((opAt ops i).dst :: ds) b (v :: st) (S.run (zDst K (opAt ops i).dst) t v) M' M' [] ((i, B) :: log) rl else none
        | none => none
      | .call => match callOf P (evS ds st t) (opAt ops i) with
        | some (f, args) => match CC.call c f args.toList M with
          | some (v, M') => bif hRl U i M' rl then hRun P ext ops K A U c kk l ((opAt ops i).dst :: ds) b (v :: st) (S.run (zDst K (opAt ops i).dst) t v) M' M' [] ((i, B) :: log) rl else none
          | none => none
        | none => match ext (evS ds st t) M (opAt ops i) with
          | some v => bif hRl U i M rl then hRun P ext ops K A U c kk l ((opAt ops i).dst :: ds) b (v :: st) (S.run (zDst K (opAt ops i).dst) t v) M M [] ((i, B) :: log) rl else none
          | none => none
noncomputable def xDraw (P : Program) (ext : ExtF) (K : Nat) (ops : Array Oper) (r : Row) : ZX := ⟨fun c kx t M d => Mem.rec (motive := fun _ => Ans) (fun nx tr =>
    hRun P ext ops K r.A r.U c (fun t M => kx .normal t M d) r.ord [] nx [] t ⟨Nat.add nx (nAlZ P (r.ord.map fun i => opAt ops i)), tr⟩ ⟨Nat.add nx (nAlZ P (r.ord.map fun i => opAt ops i)), tr⟩ [] [] []) M⟩
noncomputable def zRegion (P : Program) (tab : List Row) (ext : ExtF) (f k K id : Nat) (ops : Array Oper) (draw : Bool) : ZX := bif draw then match rowOf f id tab with
      | some r => bif r.A.isEmpty && r.U.isEmpty then xRegD (nAlZ P (r.ord.map fun i => opZ ops i)) (dList P ext ops K r.ord []) else xDraw P ext K ops r
      | none => xNo
    else match deferOf ops with
      | none => xReg (nAlZ P ops.toList) (zList P ext ops k K ops.toList [])
      | some (l, o, y) => bif dstLt k o.dst then xDefer K o y (xReg (nAlZ P l) (zList P ext ops k K l [])) else xNo
noncomputable def zCode (P : Program) (tab : List Row) (ext : ExtF) (n f k K : Nat) (lvl : Nat) : Code → ZX := Nat.rec (motive := fun _ => Code → ZX) (fun _ => xNo) (fun _ zc c => Code.rec (motive := fun _ => ZX)
  ⟨fun _ kx t M d => kx .normal t M d⟩
  (fun id ops draw => zRegion P tab ext f k K id ops draw)
  (fun _ _ a b => xSeq a b)
  (fun x _ _ a b => xCond (zOp [] x) a b)
  (fun id _ b => xBlock id b)
  (fun _ b => xLoop n b)
  (fun g _ _ _ _ _ => xRange P g)
  (fun id => ⟨fun _ kx t M d => kx (.exit id) t M d⟩)
  (fun b _ => xScope n b zc)
  (fun _ => ⟨fun _ kx t M d => kx .normal t M d⟩)
  (fun l => ⟨fun _ kx t M d => kx (.goto l) t M d⟩)
  ⟨fun _ kx t M d => kx .ret t M d⟩
  (fun _ => xNo) c) lvl

/-! ### bodies, and the machine -/
structure ZF where
  call : CC → List Value → Mem → Ans
  seq : CC → List Value → Mem → Ans
  dfc : CC → List Value → Mem → Ans
noncomputable def zArg (l : List Value) : Nat → Ev → Ev := List.rec (motive := fun _ => Nat → Ev → Ev) (fun _ t => t) (fun v _ ih i t => ih (Nat.succ i) (S0.rec (motive := fun _ => Ev → Value → Ev) (fun s => s) (sEnv0 i) t v)) l
noncomputable def resE (P : Program) (t : Ev) (M : Mem) : List ResultVar → Option (List Value)
  | [] => some []
  | .tmp s :: l => match t.get s, resE P t M l with
    | some v, some vs => some (v :: vs)
    | _, _ => none
  | .cell a ty :: l => match t.get a with
    | some x => match loadV P M.get ty x, resE P t M l with
      | some v, some vs => some (v :: vs)
      | _, _ => none
    | none => none
noncomputable def retE (P : Program) (rs : List ResultVar) (t : Ev) (M : Mem) : Option Value := match resE P t M rs with
  | some [v] => some v
  | some vs => some (.tuple vs.toArray)
  | none => none
noncomputable def leaveG (P : Program) (rs : List ResultVar) (c : CC) (t : Ev) (M : Mem) (d : List Dfr) : Ans := match d with
  | [] => (retE P rs t M).map fun v => (v, M)
  | [.coll] => (retE P rs t M).map fun v => (v, M)
  | [.fn f cap] => bif callable P f then match c.dfc f cap M with
      | some M' => (retE P rs t M').map fun v => (v, M')
      | none => none
    else none
  | _ => none
noncomputable def leave1 (P : Program) (rs : List ResultVar) (g : G) (c : CC) (t : Ev) (M : Mem) (d : List Dfr) : Ans := List.rec (motive := fun _ => Ans) (G.run g [] t fun v => some (v, M)) (fun _ _ _ => leaveG P rs c t M d) d
noncomputable def leaveP (P : Program) (rs : List ResultVar) (c : CC) (t : Ev) (M : Mem) (d : List Dfr) : Ans := bif d.isEmpty then (retE P rs t M).map fun v => (v, M) else none
noncomputable def atEnd (fin : CC → Ev → Mem → List Dfr → Ans) (c : CC) : KX := fun e t M d => Exit.rec (motive := fun _ => Ans) (fin c t M d) (fun _ => none) (fun _ => none) (fin c t M d) (fun _ => none) none e
structure LV where
  run : CC → Ev → Mem → List Dfr → Ans
noncomputable def zLeave (P : Program) (rs : List ResultVar) : LV := match rs with
  | [.tmp r] => ⟨leave1 P [.tmp r] (gEnv r)⟩
  | rs => ⟨leaveG P rs⟩
noncomputable def zBody (k i : Nat) (f : ZX) (fin : LV) : CC → List Value → Mem → Ans := fun c l M => Bool.rec (motive := fun _ => Ans) none (ZX.rec (motive := fun _ => RunX) (fun f => f) f c (atEnd (LV.run fin) c) (zArg l i .nil) M []) (Nat.ble (i + l.length) k)
abbrev Over := FuncId → Option (List Value → Mem → Ans)
noncomputable def zFn (P : Program) (tab : List Row) (ext : ExtF) (ov : Over) (n lvl f : Nat) : ZF := match ov f with
  | some g => ⟨fun _ l M => g l M, fun _ _ _ => none, fun _ _ _ => none⟩
  | none => match funZ P f with
    | some fn => match fn.body with
      | some c => bif Nat.ble (fn.params.size + fn.nfree) fn.ntmps then ⟨zBody (fn.params.size + fn.nfree) 0 (zCode P tab ext n f fn.ntmps (keepOf c (fn.params.size + fn.nfree) fn.results.toList) lvl c) (zLeave P fn.results.toList), zBody (fn.params.size + fn.nfree) 1 (zCode P tab ext n f fn.ntmps (keepOf c (fn.params.size + fn.nfree) fn.results.toList) lvl c) (zLeave P fn.results.toList),
          zBody (fn.params.size + fn.nfree) 0 (zCode P tab ext n f fn.ntmps (keepOf c (fn.params.size + fn.nfree) fn.results.toList) lvl c) ⟨leaveP P fn.results.toList⟩⟩ else ⟨fun _ _ _ => none, fun _ _ _ => none, fun _ _ _ => none⟩
      | none => ⟨fun _ _ _ => none, fun _ _ _ => none, fun _ _ _ => none⟩
    | none => ⟨fun _ _ _ => none, fun _ _ _ => none, fun _ _ _ => none⟩
noncomputable def zMach (P : Program) (tab : List Row) (ext : ExtF) (ov : Over) (n lvl : Nat) (depth : Nat) : CC := Nat.rec (motive := fun _ => CC) ⟨fun _ _ _ => none, fun _ _ _ => none, fun _ _ _ => none⟩
  (fun _ c => ⟨fun f l M => (zFn P tab ext ov n lvl f).call c l M, fun f lb M => ((zFn P tab ext ov n lvl f).seq c lb.toList M).map (·.2), fun f lb M => ((zFn P tab ext ov n lvl f).dfc c lb.toList M).map (·.2)⟩) depth
end Go.Proofs.YtopblipficpilaaGreatDoor.AY

/- The layer: the quick machine: its environment, its lists, its memory are the slower one's. -/
namespace Go.Proofs.YtopblipficpilaaGreatDoor.AY
open Go
set_option linter.unusedVariables false
set_option linter.unusedSimpArgs false

theorem orec_some {α : Type} {d : Ans} {r : Value × Mem} {k : α → Ans} {o : Option α} (h : Option.rec (motive := fun _ => Ans) d k o = some r) : (o = none ∧ d = some r) ∨ ∃ v, o = some v ∧ k v = some r := by
  cases o with
  | none => exact .inl ⟨rfl, h⟩
  | some v => exact .inr ⟨v, rfl, h⟩
theorem brec_some {x y : Ans} {r : Value × Mem} {b : Bool} (h : Bool.rec (motive := fun _ => Ans) x y b = some r) : (b = false ∧ x = some r) ∨ (b = true ∧ y = some r) := by
  cases b with
  | false => exact .inl ⟨rfl, h⟩
  | true => exact .inr ⟨rfl, h⟩

/-! ### the environment -/
def L8.put (l : L8) (i : Nat) (v : Option Value) : L8 := match i with
  | 0 => ⟨v, l.v1, l.v2, l.v3, l.v4, l.v5, l.v6, l.v7⟩
  | 1 => ⟨l.v0, v, l.v2, l.v3, l.v4, l.v5, l.v6, l.v7⟩
  | 2 => ⟨l.v0, l.v1, v, l.v3, l.v4, l.v5, l.v6, l.v7⟩
  | 3 => ⟨l.v0, l.v1, l.v2, v, l.v4, l.v5, l.v6, l.v7⟩
  | 4 => ⟨l.v0, l.v1, l.v2, l.v3, v, l.v5, l.v6, l.v7⟩
  | 5 => ⟨l.v0, l.v1, l.v2, l.v3, l.v4, v, l.v6, l.v7⟩
  | 6 => ⟨l.v0, l.v1, l.v2, l.v3, l.v4, l.v5, v, l.v7⟩
  | 7 => ⟨l.v0, l.v1, l.v2, l.v3, l.v4, l.v5, l.v6, v⟩
  | _ => l
def Ev.putL (t : Ev) (i : Nat) (l : L8) : Ev := match i with
  | 0 => ⟨l, t.c1, t.c2, t.c3, t.c4, t.c5, t.c6, t.c7, t.hi⟩
  | 1 => ⟨t.c0, l, t.c2, t.c3, t.c4, t.c5, t.c6, t.c7, t.hi⟩
  | 2 => ⟨t.c0, t.c1, l, t.c3, t.c4, t.c5, t.c6, t.c7, t.hi⟩
  | 3 => ⟨t.c0, t.c1, t.c2, l, t.c4, t.c5, t.c6, t.c7, t.hi⟩
  | 4 => ⟨t.c0, t.c1, t.c2, t.c3, l, t.c5, t.c6, t.c7, t.hi⟩
  | 5 => ⟨t.c0, t.c1, t.c2, t.c3, t.c4, l, t.c6, t.c7, t.hi⟩
  | 6 => ⟨t.c0, t.c1, t.c2, t.c3, t.c4, t.c5, l, t.c7, t.hi⟩
  | 7 => ⟨t.c0, t.c1, t.c2, t.c3, t.c4, t.c5, t.c6, l, t.hi⟩
  | _ => t
theorem L8.at_put (l : L8) (v : Option Value) : ∀ i j, i < 8 → j < 8 → (l.put i v).at j = if j = i then v else l.at j := by
  intro i j hi hj
  have : i = 0 ∨ i = 1 ∨ i = 2 ∨ i = 3 ∨ i = 4 ∨ i = 5 ∨ i = 6 ∨ i = 7 := by omega
  have : j = 0 ∨ j = 1 ∨ j = 2 ∨ j = 3 ∨ j = 4 ∨ j = 5 ∨ j = 6 ∨ j = 7 := by omega
  rcases ‹i = 0 ∨ _› with rfl | rfl | rfl | rfl | rfl | rfl | rfl | rfl <;> rcases ‹j = 0 ∨ _› with rfl | rfl | rfl | rfl | rfl | rfl | rfl | rfl <;> rfl
theorem Ev.leaf_put (t : Ev) (l : L8) : ∀ i j, i < 8 → j < 8 → (t.putL i l).leaf j = if j = i then l else t.leaf j := by
  intro i j hi hj
  have : i = 0 ∨ i = 1 ∨ i = 2 ∨ i = 3 ∨ i = 4 ∨ i = 5 ∨ i = 6 ∨ i = 7 := by omega
  have : j = 0 ∨ j = 1 ∨ j = 2 ∨ j = 3 ∨ j = 4 ∨ j = 5 ∨ j = 6 ∨ j = 7 := by omega
  rcases ‹i = 0 ∨ _› with rfl | rfl | rfl | rfl | rfl | rfl | rfl | rfl <;> rcases ‹j = 0 ∨ _› with rfl | rfl | rfl | rfl | rfl | rfl | rfl | rfl <;> rfl
theorem Ev.hi_put (t : Ev) (l : L8) : ∀ i, i < 8 → (t.putL i l).hi = t.hi := by
  intro i hi
  have : i = 0 ∨ i = 1 ∨ i = 2 ∨ i = 3 ∨ i = 4 ∨ i = 5 ∨ i = 6 ∨ i = 7 := by omega
  rcases this with rfl | rfl | rfl | rfl | rfl | rfl | rfl | rfl <;> rfl
def Ev.put (t : Ev) (s : Nat) (v : Value) : Ev := bif Nat.ble (s + 1) 64 then t.putL (s / 8) ((t.leaf (s / 8)).put (s % 8) (some v)) else { t with hi := t.hi.set (s - 64 + 1) (s - 64) (some v) }
theorem ble_iff (a b : Nat) : Nat.ble a b = decide (a ≤ b) := by
  by_cases h : a ≤ b
  · simp [h]
  · cases hh : Nat.ble a b with
    | false => simp [h]
    | true => exact absurd (Nat.le_of_ble_eq_true hh) h
theorem Ev.get_put (t : Ev) (s r : Nat) (v : Value) : (t.put s v).get r = if r = s then some v else t.get r := by
  unfold Ev.put Ev.get
  simp only [ble_iff, Bool.cond_decide]
  by_cases hs : s + 1 ≤ 64
  · simp only [hs, if_true]
    by_cases hr : r + 1 ≤ 64
    · simp only [hr, if_true]
      rw [Ev.leaf_put _ _ _ _ (by omega) (by omega)]
      by_cases h8 : r / 8 = s / 8
      · simp only [h8, if_true]
        rw [L8.at_put _ _ _ _ (by omega) (by omega)]
        by_cases hm : r % 8 = s % 8
        · have : r = s := by omega
          simp [hm, this]
        · have : r ≠ s := by rintro rfl; exact hm rfl
          simp [hm, this]
      · have : r ≠ s := by rintro rfl; exact h8 rfl
        simp [h8, this]
    · have : r ≠ s := by omega
      simp only [hr, if_false, this]
      rw [Ev.hi_put _ _ _ (by omega)]
  · simp only [hs, if_false]
    by_cases hr : r + 1 ≤ 64
    · have : r ≠ s := by omega
      simp only [hr, if_true, this, if_false]
      have : r / 8 = 0 ∨ r / 8 = 1 ∨ r / 8 = 2 ∨ r / 8 = 3 ∨ r / 8 = 4 ∨ r / 8 = 5 ∨ r / 8 = 6 ∨ r / 8 = 7 := by omega
      rcases this with h | h | h | h | h | h | h | h <;> simp only [h, Ev.leaf]
    · simp only [hr, if_false]
      rw [Tr.get_set _ _ _ _ _ (Nat.lt_succ_self _)]
      have : (r - 64 = s - 64) ↔ r = s := by omega
      simp [this]
theorem Ev.get_nil (s : Nat) : Ev.nil.get s = none := by
  unfold Ev.get
  simp only [ble_iff, Bool.cond_decide]
  by_cases hr : s + 1 ≤ 64
  · simp only [hr, if_true]
    have : s / 8 = 0 ∨ s / 8 = 1 ∨ s / 8 = 2 ∨ s / 8 = 3 ∨ s / 8 = 4 ∨ s / 8 = 5 ∨ s / 8 = 6 ∨ s / 8 = 7 := by omega
    have : s % 8 = 0 ∨ s % 8 = 1 ∨ s % 8 = 2 ∨ s % 8 = 3 ∨ s % 8 = 4 ∨ s % 8 = 5 ∨ s % 8 = 6 ∨ s % 8 = 7 := by omega
    rcases ‹s / 8 = 0 ∨ _› with h | h | h | h | h | h | h | h <;> rcases ‹s % 8 = 0 ∨ _› with h' | h' | h' | h' | h' | h' | h' | h' <;> simp only [h, h'] <;> rfl
  · simp only [hr, if_false]; rfl

theorem lDrop_succ {α : Type} (l : List α) (n : Nat) : lDrop l (n + 1) = (lDrop l n).tail := by
  show List.rec (motive := fun _ => List α) [] (fun _ t _ => t) (lDrop l n) = _
  cases lDrop l n <;> rfl
theorem lDrop_eq {α : Type} (l : List α) : ∀ n, lDrop l n = l.drop n
  | 0 => rfl
  | n + 1 => by rw [lDrop_succ, lDrop_eq l n, List.tail_drop]
theorem headD_eq {α : Type} (d : α) (l : List α) : headD d l = l.head?.getD d := by cases l <;> rfl

def isGet (n : Nat) (g : G) : Prop := ∀ (st : List Value) (t : Ev) (k : KV), g.run st t k = Option.rec (motive := fun _ => Ans) none k (t.get n)
def isPut (n : Nat) (s : S0) : Prop := ∀ (t : Ev) (v : Value), s.run t v = t.put n v
def allGet : Nat → List G → Prop
  | _, [] => True
  | n, g :: l => isGet n g ∧ allGet (n + 1) l
def allPut : Nat → List S0 → Prop
  | _, [] => True
  | n, g :: l => isPut n g ∧ allPut (n + 1) l
theorem gTab_ok : allGet 0 gTab := by
  unfold gTab
  repeat' (first | (refine ⟨fun st t k => rfl, ?_⟩) | exact trivial)
theorem sTab_ok : allPut 0 sTab := by
  unfold sTab
  repeat' (first | (refine ⟨fun t v => rfl, ?_⟩) | exact trivial)
theorem allGet.at : ∀ {l : List G} {n i : Nat} {g : G}, allGet n l → l[i]? = some g → isGet (n + i) g
  | [], _, _, _, _, h => by simp at h
  | x :: l, n, 0, g, h, hi => by simp at hi; subst hi; exact h.1
  | x :: l, n, i + 1, g, h, hi => by
    have := allGet.at (i := i) h.2 (by simpa using hi)
    rwa [show n + (i + 1) = n + 1 + i by omega]
theorem allPut.at : ∀ {l : List S0} {n i : Nat} {g : S0}, allPut n l → l[i]? = some g → isPut (n + i) g
  | [], _, _, _, _, h => by simp at h
  | x :: l, n, 0, g, h, hi => by simp at hi; subst hi; exact h.1
  | x :: l, n, i + 1, g, h, hi => by
    have := allPut.at (i := i) h.2 (by simpa using hi)
    rwa [show n + (i + 1) = n + 1 + i by omega]
theorem head_at {α : Type} (d : α) (l : List α) {i : Nat} (h : i < l.length) : l[i]? = some (headD d (lDrop l i)) := by
  rw [headD_eq, lDrop_eq, List.head?_drop]
  rw [List.getElem?_eq_getElem h]
  rfl
theorem gEnv_eq (s : Nat) (st : List Value) (t : Ev) (k : KV) : (gEnv s).run st t k = Option.rec (motive := fun _ => Ans) none k (t.get s) := by
  unfold gEnv
  cases hb : Nat.ble (Nat.succ s) 64 with
  | true =>
    have hs : s < 64 := Nat.le_of_ble_eq_true hb
    have := allGet.at gTab_ok (head_at gNo gTab (i := s) (by exact hs))
    rw [Nat.zero_add] at this
    exact this st t k
  | false =>
    show (gHi (s - 64)).run st t k = _
    unfold gHi Ev.get
    rw [show Nat.ble (s + 1) 64 = false from hb]
    rfl
theorem sEnv0_eq (s : Nat) (t : Ev) (v : Value) : (sEnv0 s).run t v = t.put s v := by
  unfold sEnv0
  cases hb : Nat.ble (Nat.succ s) 64 with
  | true =>
    have hs : s < 64 := Nat.le_of_ble_eq_true hb
    have := allPut.at sTab_ok (head_at (⟨fun t _ => t⟩ : S0) sTab (i := s) (by exact hs))
    rw [Nat.zero_add] at this
    exact this t v
  | false =>
    show (sHi (s - 64)).run t v = _
    unfold sHi Ev.put
    rw [show Nat.ble (s + 1) 64 = false from hb]
    rfl

theorem sEnv_eq (s : Nat) (t : Ev) (v : Value) : (sEnv s).run t v = t.put s v := sEnv0_eq s t v
theorem lHead_some {d : Ans} {r : Value × Mem} {k : KV} {l : List Value} (h : lHead d k l = some r) : (l = [] ∧ d = some r) ∨ ∃ v, l.head? = some v ∧ k v = some r := by
  cases l with
  | nil => exact .inl ⟨rfl, h⟩
  | cons v l => exact .inr ⟨v, rfl, h⟩
theorem stAt_some : ∀ {n : Nat} {st : List Value} {k : KV} {r : Value × Mem}, stAt n st k = some r → ∃ v, st[n]? = some v ∧ k v = some r
  | 0, st, k, r, h => by
    cases st with
    | nil => cases h
    | cons v st => exact ⟨v, rfl, h⟩
  | n + 1, st, k, r, h => by
    cases st with
    | nil => cases h
    | cons v st => exact stAt_some (n := n) (st := st) h
theorem gStk_some {n : Nat} {st : List Value} {t : Ev} {k : KV} {r : Value × Mem} (h : (gStk n).run st t k = some r) : ∃ v, st[n]? = some v ∧ k v = some r := by
  match n with
  | 0 => cases st with
    | nil => cases h
    | cons v st => exact ⟨v, rfl, h⟩
  | 1 => match st with
    | [] => cases h
    | [_] => cases h
    | _ :: v :: _ => exact ⟨v, rfl, h⟩
  | 2 => match st with
    | [] => cases h
    | [_] => cases h
    | [_, _] => cases h
    | _ :: _ :: v :: _ => exact ⟨v, rfl, h⟩
  | 3 => match st with
    | [] => cases h
    | [_] => cases h
    | [_, _] => cases h
    | [_, _, _] => cases h
    | _ :: _ :: _ :: v :: _ => exact ⟨v, rfl, h⟩
  | n + 4 => exact stAt_some (n := n + 4) h
theorem spot_loc : ∀ {ds : List (Option Nat)} {st : List Value} {s n : Nat} {v : Value}, spot s ds = some n → st[n]? = some v → locGet ds st s = some v
  | [], _, _, _, _, h, _ => by cases h
  | some d :: ds, st, s, n, v, h, hv => by
    simp only [spot] at h
    cases hb : Nat.beq d s with
    | true =>
      simp only [hb, cond_true, Option.some.injEq] at h; subst h
      cases st with
      | nil => simp at hv
      | cons u st => simp at hv; subst hv; simp [locGet, hb]
    | false =>
      simp only [hb, cond_false] at h
      cases hp : spot s ds with
      | none => simp [hp] at h
      | some m =>
        simp only [hp, Option.map_some, Option.some.injEq] at h; subst h
        cases st with
        | nil => simp at hv
        | cons u st => simp only [locGet, hb, cond_false]; exact spot_loc hp (by simpa using hv)
  | none :: ds, st, s, n, v, h, hv => by
    simp only [spot] at h
    cases hp : spot s ds with
    | none => simp [hp] at h
    | some m =>
      simp only [hp, Option.map_some, Option.some.injEq] at h; subst h
      cases st with
      | nil => simp at hv
      | cons u st => simp only [locGet]; exact spot_loc hp (by simpa using hv)
theorem zOp_some {ds : List (Option Nat)} {x : Operand} {st : List Value} {t : Ev} {k : KV} {r : Value × Mem} (h : (zOp ds x).run st t k = some r) : ∃ v, evS ds st t x = some v ∧ k v = some r := by
  cases x with
  | tmp s =>
    simp only [zOp, zTmp] at h
    simp only [evS]
    cases hp : spot s ds with
    | none =>
      simp only [hp] at h
      rw [gEnv_eq] at h
      rcases orec_some h with ⟨_, h⟩ | h
      · cases h
      · exact h
    | some n =>
      simp only [hp] at h
      obtain ⟨v, h1, h2⟩ := gStk_some h
      exact ⟨v, spot_loc hp h1, h2⟩
  | const v =>
    simp only [zOp] at h
    cases hp : plain v with
    | false => simp only [hp] at h; cases h
    | true => simp only [hp] at h; exact ⟨v, by simp [evS, hp], h⟩
  | global g => cases h
  | func f => exact ⟨_, rfl, h⟩

/-! ### what is known, of all that is -/
def Loc (ds : List (Option Nat)) (st : List Value) (e : Env) : Prop := ∀ s v, locGet ds st s = some v → e.get s = some v
def Under (K : Nat) (e : Env) (t : Ev) : Prop := ∀ s v, t.get s = some v → e.get s = some v ∧ K.testBit s = true
def EvSub (f g : Operand → Option Value) : Prop := ∀ x v, f x = some v → g x = some v
theorem evS_sub {K : Nat} {ds : List (Option Nat)} {st : List Value} {e : Env} {t : Ev} (hl : Loc ds st e) (hu : Under K e t) : EvSub (evS ds st t) (AY.aev e) := by
  intro x v h
  cases x with
  | tmp s =>
    simp only [evS] at h
    split at h
    · exact hl s v h
    · exact (hu s v h).1
  | const v => exact h
  | global g => exact h
  | func f => exact h
theorem zDst_put {K : Nat} {d : Option Nat} {t : Ev} {v : Value} {e : Env} (hu : Under K e t) : Under K (e.put d v) ((zDst K d).run t v) := by
  intro s u h
  cases d with
  | none => exact hu s u h
  | some d =>
    simp only [zDst] at h
    rw [Env.get_put]
    cases hk : Nat.testBit K d with
    | false =>
      simp only [hk] at h
      obtain ⟨h1, h2⟩ := hu s u h
      have : d ≠ s := by rintro rfl; rw [hk] at h2; cases h2
      simp [this, h1, h2]
    | true =>
      simp only [hk] at h
      rw [sEnv_eq, Ev.get_put] at h
      by_cases hs : s = d
      · subst hs; simp at h; subst h; simp [hk]
      · simp only [hs, if_false] at h
        obtain ⟨h1, h2⟩ := hu s u h
        simp [Ne.symm hs, h1, h2]
theorem zPut_dst {K : Nat} {d : Option Nat} {kk : KT} {b : Nat} {st : List Value} {t : Ev} {M : Mem} {v : Value} : zPut (zDst K d) kk b st t M v = kk b (v :: st) ((zDst K d).run t v) M := by
  cases d with
  | none => rfl
  | some d =>
    simp only [zDst]
    cases Nat.testBit K d <;> rfl
theorem Loc.put {ds : List (Option Nat)} {st : List Value} {e : Env} (hl : Loc ds st e) (d : Option Nat) (v : Value) : Loc (d :: ds) (v :: st) (e.put d v) := by
  intro s u h
  rw [Env.get_put]
  cases d with
  | none => simp only [locGet] at h; simp; exact hl s u h
  | some d =>
    simp only [locGet, beq_iff, Bool.cond_decide] at h
    by_cases hs : d = s
    · subst hs; simp at h; subst h; simp
    · simp only [hs, if_false] at h; simp [hs]; exact hl s u h
theorem Loc.nil (e : Env) : Loc [] [] e := fun s v h => by simp [locGet] at h

/-! ### memory -/
theorem tGet_eq : ∀ (t : Tri) (k : Nat), tGet t k = t.get k := by
  intro t
  induction t with
  | nil => intro k; rfl
  | node l v r ihl ihr =>
    intro k
    show Bool.rec (motive := fun _ => Option Blk) (Bool.rec (motive := fun _ => Option Blk) (tGet r (k / 2 - 1)) (tGet l (k / 2)) (Nat.beq (k % 2) 1)) v (Nat.beq k 0) = _
    rw [ihl, ihr]
    simp only [Tri.get]
    cases Nat.beq k 0 <;> cases Nat.beq (k % 2) 1 <;> rfl
theorem tSet_eq : ∀ (f : Nat) (t : Tri) (k : Nat) (b : Option Blk), tSet f t k b = t.set f k b := by
  intro f
  induction f with
  | zero => intro t k b; rfl
  | succ f ih =>
    intro t k b
    cases t with
    | nil =>
      show Bool.rec (motive := fun _ => Tri) (Bool.rec (motive := fun _ => Tri) (.node .nil none (tSet f .nil (k / 2 - 1) b)) (.node (tSet f .nil (k / 2) b) none .nil) (Nat.beq (k % 2) 1)) (.node .nil b .nil) (Nat.beq k 0) = _
      rw [ih, ih]
      simp only [Tri.set]
      cases Nat.beq k 0 <;> cases Nat.beq (k % 2) 1 <;> rfl
    | node l v r =>
      show Bool.rec (motive := fun _ => Tri) (Bool.rec (motive := fun _ => Tri) (.node l v (tSet f r (k / 2 - 1) b)) (.node (tSet f l (k / 2) b) v r) (Nat.beq (k % 2) 1)) (.node l b r) (Nat.beq k 0) = _
      rw [ih, ih]
      simp only [Tri.set]
      cases Nat.beq k 0 <;> cases Nat.beq (k % 2) 1 <;> rfl
theorem mPut_eq (M : Mem) (i : Nat) (b : Blk) : mPut M i b = M.put i b := by
  rw [Mem.put_eq]
  show Mem.mk M.next (tSet (Nat.succ i) M.tri i (some b)) = _
  rw [tSet_eq]
theorem lSet_eq (v : Value) : ∀ (l : List Value) (n : Nat), n < l.length → lSet v l n = splice l n [v]
  | [], _, h => by simp at h
  | c :: l, 0, _ => by simp [splice]; rfl
  | c :: l, n + 1, h => by
    show c :: lSet v l n = _
    rw [lSet_eq v l n (by simpa using h)]
    simp [splice, Nat.add_comm, Nat.add_left_comm]
theorem zRow_some {d : Ans} {r : Value × Mem} {f : List Value → TypeId → Bool → Ans} {M : Mem} {b : Nat} (h : zRow d f M b = some r) : d = some r ∨ ∃ blk, rowsOf M.get b = some blk ∧ f blk.cells blk.elem blk.rw = some r := by
  have h : (Option.rec (motive := fun _ => Ans → (List Value → TypeId → Bool → Ans) → Ans) (fun d _ => d) (fun x d f => Blk.rec (motive := fun _ => Ans → (List Value → TypeId → Bool → Ans) → Ans) (fun cs e rw d f => Bool.rec (motive := fun _ => Ans) (f cs e rw) d (Nat.ble mapTag e)) x d f) (tGet M.tri b) d f : Ans) = some r := h
  rw [tGet_eq] at h
  cases hb : M.tri.get b with
  | none => rw [hb] at h; exact .inl h
  | some blk =>
    rw [hb] at h
    have h : Bool.rec (motive := fun _ => Ans) (f blk.cells blk.elem blk.rw) d (Nat.ble mapTag blk.elem) = some r := h
    rcases brec_some h with ⟨h2, h⟩ | ⟨_, h⟩
    · refine .inr ⟨blk, ?_, h⟩
      unfold rowsOf
      rw [show M.get b = some blk from hb]
      simp only [isObj, h2, cond_false]
    · exact .inl h
theorem headO {α : Type} (l : List α) (i : Nat) : (List.rec (motive := fun _ => Option α) none (fun a _ _ => some a) (lDrop l i) : Option α) = l[i]? := by
  rw [← List.head?_drop, ← lDrop_eq]
  cases lDrop l i <;> rfl
theorem infoZ_eq (P : Program) (t : TypeId) : infoZ P t = P.info? t := by
  have key : ∀ l : List TypeInfo, l = lDrop P.types.toList t → (List.rec (motive := fun _ => Option TypeInfo) (P.info? t) (fun a _ _ => some a) l : Option TypeInfo) = P.info? t := by
    intro l hl
    cases l with
    | nil => rfl
    | cons a l =>
      have h1 : P.types.toList[t]? = some a := by rw [← List.head?_drop, ← lDrop_eq, ← hl]; rfl
      have h2 : P.types[t]? = some a := by simpa using h1
      have h3 : t < P.types.size := (Array.getElem?_eq_some_iff.1 h2).1
      show some a = Tables.info? P.toTables t
      unfold Tables.info?
      rw [if_pos h3, h2]
  exact key _ rfl
theorem underZ_eq (P : Program) (t : TypeId) : underZ P t = P.underlying t := by
  unfold underZ Program.underlying
  simp only [infoZ_eq]
  rfl
theorem zeroZ_eq (P : Program) (t : TypeId) : zeroZ P t = zeroC P t := by unfold zeroZ zeroC; simp only [infoZ_eq]; rfl
theorem kindZ_eq (P : Program) (o : Oper) : kindZ P o = kindOf P o := by unfold kindZ kindOf; simp only [underZ_eq]; rfl
theorem nAlZ_eq (P : Program) : ∀ l, nAlZ P l = nAl P l
  | [] => rfl
  | o :: l => by
    show Kind.rec (motive := fun _ => Nat) (nAlZ P l) (nAlZ P l) (Nat.succ (nAlZ P l)) (nAlZ P l) (nAlZ P l) (kindZ P o) = _
    rw [nAlZ_eq P l, kindZ_eq]
    simp only [nAl]
    cases kindOf P o <;> rfl
theorem opZ_eq (ops : Array Oper) (i : Nat) : opZ ops i = opAt ops i := by
  unfold opZ opAt
  rw [show ops[i]? = ops.toList[i]? by simp, ← List.head?_drop, ← lDrop_eq]
  cases lDrop ops.toList i <;> rfl
theorem funZ_eq (P : Program) (f : Nat) : funZ P f = P.funcs[f]? := by
  show (List.rec (motive := fun _ => Option Func) none (fun a _ _ => some a) (lDrop P.funcs.toList f) : Option Func) = _
  rw [headO]; simp
theorem callableZ_eq (P : Program) (f : FuncId) : callableZ P f = callable P f := by unfold callableZ callable; rw [funZ_eq]; rfl
end Go.Proofs.YtopblipficpilaaGreatDoor.AY

/- The layer: the quick machine: values, and what two of them come to. -/
namespace Go.Proofs.YtopblipficpilaaGreatDoor.AY
open Go
set_option linter.unusedVariables false
set_option linter.unusedSimpArgs false

theorem vNat_some {d : Ans} {f : IntKind → Nat → Ans} {v : Value} {r : Value × Mem} (h : vNat d f v = some r) : d = some r ∨ ∃ k n, v = .int k (Int.ofNat n) ∧ f k n = some r := by
  cases v <;> first | (exact .inl h) | skip
  rename_i k n
  cases n with
  | ofNat n => exact .inr ⟨k, n, rfl, h⟩
  | negSucc n => exact .inl h
theorem vBool_some {d : Ans} {f : Bool → Ans} {v : Value} {r : Value × Mem} (h : vBool d f v = some r) : d = some r ∨ ∃ b, v = .bool b ∧ f b = some r := by
  cases v <;> first | (exact .inl h) | skip
  exact .inr ⟨_, rfl, h⟩
theorem vPtr_some {d : Ans} {f : Nat → Nat → Ans} {v : Value} {r : Value × Mem} (h : vPtr d f v = some r) : d = some r ∨ ∃ b o, v = .pointer (some ⟨b, o, none⟩) ∧ f b o = some r := by
  cases v <;> first | (exact .inl h) | skip
  rename_i a
  cases a with
  | none => exact .inl h
  | some a =>
    obtain ⟨b, o, sp⟩ := a
    cases sp with
    | none => exact .inr ⟨b, o, rfl, h⟩
    | some _ => exact .inl h
theorem vSl_some {d : Ans} {f : Nat → Nat → Nat → Nat → Ans} {v : Value} {r : Value × Mem} (h : vSl d f v = some r) : d = some r ∨ ∃ b o n c, v = .slice (some ⟨b, o, none⟩) n c ∧ f b o n c = some r := by
  cases v <;> first | (exact .inl h) | skip
  rename_i a n c
  cases a with
  | none => exact .inl h
  | some a =>
    obtain ⟨b, o, sp⟩ := a
    cases sp with
    | none => exact .inr ⟨b, o, n, c, rfl, h⟩
    | some _ => exact .inl h
theorem vLen_some {d : Ans} {f : Nat → Ans} {v : Value} {r : Value × Mem} (h : vLen d f v = some r) : d = some r ∨ ∃ a n c, v = .slice a n c ∧ f n = some r := by
  cases v <;> first | (exact .inl h) | skip
  exact .inr ⟨_, _, _, rfl, h⟩
theorem vTup_some {d : Ans} {f : List Value → Ans} {v : Value} {r : Value × Mem} (h : vTup d f v = some r) : d = some r ∨ ∃ vs, v = .tuple vs ∧ f vs.toList = some r := by
  cases v <;> first | (exact .inl h) | skip
  exact .inr ⟨_, rfl, h⟩
theorem vOne_some {d k : Ans} {v : Value} {r : Value × Mem} (h : vOne d k v = some r) : d = some r ∨ (v.oneCell' = true ∧ v.cells = #[v] ∧ k = some r) := by
  cases v <;> first | (exact .inl h) | (exact .inr ⟨rfl, rfl, h⟩)
theorem oK_some {d : Ans} {k : KV} {o : Option Value} {r : Value × Mem} (h : oK d k o = some r) : (o = none ∧ d = some r) ∨ ∃ v, o = some v ∧ k v = some r := orec_some h
theorem oK_none {k : KV} {o : Option Value} {r : Value × Mem} (h : oK none k o = some r) : ∃ v, o = some v ∧ k v = some r := by
  rcases oK_some h with ⟨_, h⟩ | h
  · cases h
  · exact h
theorem kc_eq {a b : IntKind} (h : Nat.beq (kc a) (kc b) = true) : a = b := by
  cases a <;> cases b <;> first | rfl | (exact absurd h (by decide))
theorem zNN_some {d : Ans} {f : IntKind → Nat → Nat → Ans} {a b : Value} {r : Value × Mem} (h : zNN d f a b = some r) : d = some r ∨ ∃ k m n, a = .int k (Int.ofNat m) ∧ b = .int k (Int.ofNat n) ∧ f k m n = some r := by
  unfold zNN at h
  rcases vNat_some h with h | ⟨ka, m, rfl, h⟩
  · exact .inl h
  · rcases vNat_some (v := b) (by assumption) with h | ⟨kb, n, rfl, h⟩
    · exact .inl h
    · rcases brec_some h with ⟨_, h⟩ | ⟨hk, h⟩
      · exact .inl h
      · obtain rfl := kc_eq hk; exact .inr ⟨_, m, n, rfl, rfl, by assumption⟩
theorem zN2_some {d : Ans} {f : IntKind → Nat → Nat → Ans} {a b : Value} {r : Value × Mem} (h : zN2 d f a b = some r) : d = some r ∨ ∃ k k' m n, a = .int k (Int.ofNat m) ∧ b = .int k' (Int.ofNat n) ∧ f k m n = some r := by
  unfold zN2 at h
  rcases vNat_some h with h | ⟨ka, m, rfl, h⟩
  · exact .inl h
  · rcases vNat_some (v := b) (by assumption) with h | ⟨kb, n, rfl, h⟩
    · exact .inl h
    · exact .inr ⟨_, _, m, n, rfl, rfl, h⟩
theorem zFit_some {d : Ans} {k : KV} {ka : IntKind} {n : Nat} {r : Value × Mem} (h : zFit d k ka n = some r) : d = some r ∨ (n ≤ kmax ka ∧ k (.int ka (.ofNat n)) = some r) := by
  rcases brec_some h with ⟨_, h⟩ | ⟨hk, h⟩
  · exact .inl h
  · exact .inr ⟨Nat.le_of_ble_eq_true hk, h⟩
theorem wrap_fit {k : IntKind} {n : Nat} (h : n ≤ kmax k) : k.wrap (Int.ofNat n) = Int.ofNat n := by
  cases k <;> simp only [kmax] at h <;> simp [IntKind.wrap, IntKind.bits, IntKind.signed] <;> omega
theorem kmax_lt (k : IntKind) : kmax k < 2 ^ k.bits := by cases k <;> decide

theorem bv_nat {w m n : Nat} (hm : m < 2 ^ w) (hn : n < 2 ^ w) : (BitVec.ofInt w (Int.ofNat m)).toNat = m ∧ (BitVec.ofInt w (Int.ofNat n)).toNat = n := by
  constructor <;> (rw [show (Int.ofNat _ : Int) = ((_ : Nat) : Int) from rfl, BitVec.ofInt_natCast, BitVec.toNat_ofNat, Nat.mod_eq_of_lt (by assumption)])
theorem bits_ge (k : IntKind) : 8 ≤ k.bits := by cases k <;> decide

theorem slow_some {f : Value → Value → Option Value} {a b : Value} {k : KV} {r : Value × Mem} (h : zGen2 f a b k = some r) : ∃ v, f a b = some v ∧ k v = some r := oK_none h
theorem zBin_some {P : Program} {op : BinOp} {t : TypeId} {a b : Value} {k : KV} {r : Value × Mem} (h : (zBin P op t).run a b k = some r) : ∃ v, binV P op t a b = some v ∧ k v = some r := by
  cases op with
  | add =>
    rcases zNN_some h with h | ⟨ka, m, n, rfl, rfl, h⟩
    · exact slow_some h
    · rcases zFit_some h with h | ⟨h1, h⟩
      · exact slow_some h
      · refine ⟨_, ?_, h⟩
        simp only [binV, true_or, if_true, intBin]
        rw [show (Int.ofNat m + Int.ofNat n : Int) = Int.ofNat (Nat.add m n) from rfl, wrap_fit h1]
  | sub =>
    rcases zNN_some h with h | ⟨ka, m, n, rfl, rfl, h⟩
    · exact slow_some h
    · rcases brec_some h with ⟨_, h⟩ | ⟨hb, h⟩
      · exact slow_some h
      · rcases zFit_some h with h | ⟨h1, h⟩
        · exact slow_some h
        · refine ⟨_, ?_, h⟩
          have := Nat.le_of_ble_eq_true hb
          simp only [binV, true_or, if_true, intBin]
          rw [show (Int.ofNat m - Int.ofNat n : Int) = Int.ofNat (Nat.sub m n) by simp only [Int.ofNat_eq_natCast, Nat.sub_eq]; omega, wrap_fit h1]
  | mul =>
    rcases zNN_some h with h | ⟨ka, m, n, rfl, rfl, h⟩
    · exact slow_some h
    · rcases zFit_some h with h | ⟨h1, h⟩
      · exact slow_some h
      · refine ⟨_, ?_, h⟩
        simp only [binV, true_or, if_true, intBin]
        rw [show (Int.ofNat m * Int.ofNat n : Int) = Int.ofNat (Nat.mul m n) from rfl, wrap_fit h1]
  | quo =>
    rcases zNN_some h with h | ⟨ka, m, n, rfl, rfl, h⟩
    · exact slow_some h
    · rcases brec_some h with ⟨hb, h⟩ | ⟨_, h⟩
      · rcases zFit_some h with h | ⟨h1, h⟩
        · exact slow_some h
        · refine ⟨_, ?_, h⟩
          have hn : ¬ (Int.ofNat n = 0) := by
            intro h0
            have : n = 0 := by simpa using h0
            subst this; cases hb
          simp only [binV, true_or, if_true, intBin, hn, if_false]
          rw [show (Int.tdiv (Int.ofNat m) (Int.ofNat n) : Int) = Int.ofNat (Nat.div m n) from rfl, wrap_fit h1]
      · exact slow_some h
  | rem =>
    rcases zNN_some h with h | ⟨ka, m, n, rfl, rfl, h⟩
    · exact slow_some h
    · rcases brec_some h with ⟨hb, h⟩ | ⟨_, h⟩
      · refine ⟨_, ?_, h⟩
        have hn : ¬ (Int.ofNat n = 0) := by
          intro h0
          have : n = 0 := by simpa using h0
          subst this; cases hb
        simp only [binV, true_or, if_true, intBin, hn, if_false]
        rfl
      · exact slow_some h
  | and =>
    rcases zNN_some h with h | ⟨ka, m, n, rfl, rfl, h⟩
    · exact slow_some h
    · rcases brec_some h with ⟨_, h⟩ | ⟨hm, h⟩
      · exact slow_some h
      · rcases brec_some h with ⟨_, h⟩ | ⟨hn, h⟩
        · exact slow_some h
        · rcases zFit_some h with h | ⟨h1, h⟩
          · exact slow_some h
          · refine ⟨_, ?_, h⟩
            have h2 := Nat.lt_of_le_of_lt (Nat.le_of_ble_eq_true hm) (kmax_lt ka)
            have h3 := Nat.lt_of_le_of_lt (Nat.le_of_ble_eq_true hn) (kmax_lt ka)
            simp only [binV, true_or, if_true, intBin]
            rw [BitVec.toNat_and, (bv_nat h2 h3).1, (bv_nat h2 h3).2]
            exact congrArg some (congrArg _ (wrap_fit h1))
  | or =>
    rcases zNN_some h with h | ⟨ka, m, n, rfl, rfl, h⟩
    · exact slow_some h
    · rcases brec_some h with ⟨_, h⟩ | ⟨hm, h⟩
      · exact slow_some h
      · rcases brec_some h with ⟨_, h⟩ | ⟨hn, h⟩
        · exact slow_some h
        · rcases zFit_some h with h | ⟨h1, h⟩
          · exact slow_some h
          · refine ⟨_, ?_, h⟩
            have h2 := Nat.lt_of_le_of_lt (Nat.le_of_ble_eq_true hm) (kmax_lt ka)
            have h3 := Nat.lt_of_le_of_lt (Nat.le_of_ble_eq_true hn) (kmax_lt ka)
            simp only [binV, true_or, if_true, intBin]
            rw [BitVec.toNat_or, (bv_nat h2 h3).1, (bv_nat h2 h3).2]
            exact congrArg some (congrArg _ (wrap_fit h1))
  | xor =>
    rcases zNN_some h with h | ⟨ka, m, n, rfl, rfl, h⟩
    · exact slow_some h
    · rcases brec_some h with ⟨_, h⟩ | ⟨hm, h⟩
      · exact slow_some h
      · rcases brec_some h with ⟨_, h⟩ | ⟨hn, h⟩
        · exact slow_some h
        · rcases zFit_some h with h | ⟨h1, h⟩
          · exact slow_some h
          · refine ⟨_, ?_, h⟩
            have h2 := Nat.lt_of_le_of_lt (Nat.le_of_ble_eq_true hm) (kmax_lt ka)
            have h3 := Nat.lt_of_le_of_lt (Nat.le_of_ble_eq_true hn) (kmax_lt ka)
            simp only [binV, true_or, if_true, intBin]
            rw [BitVec.toNat_xor, (bv_nat h2 h3).1, (bv_nat h2 h3).2]
            exact congrArg some (congrArg _ (wrap_fit h1))
  | shl =>
    rcases zN2_some h with h | ⟨ka, kb, m, n, rfl, rfl, h⟩
    · exact slow_some h
    · rcases brec_some h with ⟨_, h⟩ | ⟨hb, h⟩
      · exact slow_some h
      · rcases zFit_some h with h | ⟨h1, h⟩
        · exact slow_some h
        · refine ⟨_, ?_, h⟩
          have h7 := Nat.le_of_ble_eq_true hb
          have h8 := bits_ge ka
          have hlt : ¬ (Int.ofNat n < 0) := by simp only [Int.ofNat_eq_natCast]; omega
          have hmin : min (Int.ofNat n).toNat ka.bits = n := by simp only [Int.ofNat_eq_natCast, Int.toNat_natCast]; omega
          simp only [binV, true_or, or_true, if_true, intBin, hlt, if_false, hmin]
          rw [show (Int.ofNat m * 2 ^ n : Int) = Int.ofNat (Nat.mul m (Nat.pow 2 n)) by
            show ((m : Int) * 2 ^ n) = ((m * 2 ^ n : Nat) : Int); simp, wrap_fit h1]
  | shr =>
    rcases zN2_some h with h | ⟨ka, kb, m, n, rfl, rfl, h⟩
    · exact slow_some h
    · rcases brec_some h with ⟨_, h⟩ | ⟨hb, h⟩
      · exact slow_some h
      · refine ⟨_, ?_, h⟩
        have h7 := Nat.le_of_ble_eq_true hb
        have h8 := bits_ge ka
        have hlt : ¬ (Int.ofNat n < 0) := by simp only [Int.ofNat_eq_natCast]; omega
        have hmin : min (Int.ofNat n).toNat ka.bits = n := by simp only [Int.ofNat_eq_natCast, Int.toNat_natCast]; omega
        simp only [binV, true_or, or_true, if_true, intBin, hlt, if_false, hmin]
        rw [show (Int.fdiv (Int.ofNat m) (2 ^ n) : Int) = Int.ofNat (Nat.div m (Nat.pow 2 n)) by
          show Int.fdiv (m : Int) (2 ^ n) = ((m / 2 ^ n : Nat) : Int)
          rw [show (2 ^ n : Int) = ((2 ^ n : Nat) : Int) by simp]; exact (Int.ofNat_fdiv m (2 ^ n)).symm]
  | andNot => exact slow_some h
  | eql =>
    rcases zNN_some h with h | ⟨ka, m, n, rfl, rfl, hz⟩
    · exact slow_some h
    · refine ⟨_, ?_, hz⟩
      simp only [binV, true_or, if_true, intBin, Option.some.injEq, Value.bool.injEq, beq_iff]
      by_cases hh : m = n <;> simp [hh] <;> omega
  | neq =>
    rcases zNN_some h with h | ⟨ka, m, n, rfl, rfl, hz⟩
    · exact slow_some h
    · refine ⟨_, ?_, hz⟩
      simp only [binV, true_or, if_true, intBin, Option.some.injEq, Value.bool.injEq, beq_iff]
      by_cases hh : m = n <;> simp [hh] <;> omega
  | lss =>
    rcases zNN_some h with h | ⟨ka, m, n, rfl, rfl, hz⟩
    · exact slow_some h
    · refine ⟨_, ?_, hz⟩
      simp only [binV, true_or, if_true, intBin, Option.some.injEq, Value.bool.injEq, ble_iff]
      by_cases hh : m < n <;> simp [hh, Nat.succ_le_iff]
  | leq =>
    rcases zNN_some h with h | ⟨ka, m, n, rfl, rfl, hz⟩
    · exact slow_some h
    · refine ⟨_, ?_, hz⟩
      simp only [binV, true_or, if_true, intBin, Option.some.injEq, Value.bool.injEq, ble_iff]
      by_cases hh : m ≤ n <;> simp [hh]
  | gtr =>
    rcases zNN_some h with h | ⟨ka, m, n, rfl, rfl, hz⟩
    · exact slow_some h
    · refine ⟨_, ?_, hz⟩
      simp only [binV, true_or, if_true, intBin, Option.some.injEq, Value.bool.injEq, ble_iff]
      by_cases hh : n < m <;> simp [hh, Nat.succ_le_iff]
  | geq =>
    rcases zNN_some h with h | ⟨ka, m, n, rfl, rfl, hz⟩
    · exact slow_some h
    · refine ⟨_, ?_, hz⟩
      simp only [binV, true_or, if_true, intBin, Option.some.injEq, Value.bool.injEq, ble_iff]
      by_cases hh : n ≤ m <;> simp [hh]
end Go.Proofs.YtopblipficpilaaGreatDoor.AY

/- The layer: the quick machine: operations. -/
namespace Go.Proofs.YtopblipficpilaaGreatDoor.AY
open Go
set_option linter.unusedVariables false
set_option linter.unusedSimpArgs false

/-- what an operation does: B is what it reads, M what it changes -/
def Acts (P : Program) (ext : ExtF) (c : CC) (o : Oper) (ev : Operand → Option Value) (B M : Mem) (b : Nat) (v : Value) (M' : Mem) (b' : Nat) : Prop := match kindOf P o with
  | .pure => pureV P ev o = some v ∧ M' = M ∧ b' = b
  | .read => readV P ev B.get o = some v ∧ M' = M ∧ b' = b
  | .alloc => ∃ bl mk, allocA P ev o.op = some (bl, mk) ∧ v = mk b ∧ M' = M.put b bl ∧ b' = b + 1
  | .eff => effV P ev M o = some (v, M') ∧ b' = b
  | .call => b' = b ∧ ((∃ f args, callOf P ev o = some (f, args) ∧ c.call f args.toList M = some (v, M')) ∨ (callOf P ev o = none ∧ ext ev M o = some v ∧ M' = M))
def Done (P : Program) (ext : ExtF) (c : CC) (ds : List (Option Nat)) (o : Oper) (s : S) (kk : KT) (b : Nat) (st : List Value) (t : Ev) (M : Mem) (r : Value × Mem) : Prop :=
  ∃ v M' b', Acts P ext c o (evS ds st t) M M b v M' b' ∧ zPut s kk b' st t M' v = some r
section
variable {P : Program} {ext : ExtF} {c : CC} {ds : List (Option Nat)} {o : Oper} {s : S} {kk : KT} {b : Nat} {st : List Value} {t : Ev} {M : Mem} {r : Value × Mem}

theorem Done.pure {v : Value} (hk : kindOf P o = .pure) (hv : pureV P (evS ds st t) o = some v) (h : zPut s kk b st t M v = some r) : Done P ext c ds o s kk b st t M r :=
  ⟨v, M, b, by simp [Acts, hk, hv], h⟩
theorem Done.read {v : Value} (hk : kindOf P o = .read) (hv : readV P (evS ds st t) M.get o = some v) (h : zPut s kk b st t M v = some r) : Done P ext c ds o s kk b st t M r :=
  ⟨v, M, b, by simp [Acts, hk, hv], h⟩
theorem Done.eff {v : Value} {M' : Mem} (hk : kindOf P o = .eff) (hv : effV P (evS ds st t) M o = some (v, M')) (h : zPut s kk b st t M' v = some r) : Done P ext c ds o s kk b st t M r :=
  ⟨v, M', b, by simp [Acts, hk, hv], h⟩
theorem Done.alloc {bl : Blk} {mk : Nat → Value} (hk : kindOf P o = .alloc) (hv : allocA P (evS ds st t) o.op = some (bl, mk)) (h : zPut s kk (b + 1) st t (M.put b bl) (mk b) = some r) : Done P ext c ds o s kk b st t M r :=
  ⟨mk b, M.put b bl, b + 1, by unfold Acts; rw [hk]; exact ⟨bl, mk, hv, rfl, rfl, rfl⟩, h⟩
theorem ansK_some {f : Value → Mem → Ans} {a : Ans} (h : ansK f a = some r) : ∃ v M', a = some (v, M') ∧ f v M' = some r := by
  cases a with
  | none => cases h
  | some p => obtain ⟨v, M'⟩ := p; exact ⟨v, M', rfl, h⟩
theorem generic_done (h : (zGeneric P ext ds o s).run c kk b st t M = some r) : Done P ext c ds o s kk b st t M r := by
  unfold zGeneric at h
  rw [kindZ_eq] at h
  cases hk : kindOf P o with
  | pure =>
    rw [hk] at h
    obtain ⟨v, h1, h2⟩ := oK_none (show oK none (zPut s kk b st t M) (pureV P (evS ds st t) o) = some r from h)
    exact .pure hk h1 h2
  | read =>
    rw [hk] at h
    obtain ⟨v, h1, h2⟩ := oK_none (show oK none (zPut s kk b st t M) (readV P (evS ds st t) M.get o) = some r from h)
    exact .read hk h1 h2
  | alloc =>
    rw [hk] at h
    rcases orec_some h with ⟨_, h⟩ | ⟨p, h1, h⟩
    · cases h
    · obtain ⟨bl, mk⟩ := p
      refine .alloc hk h1 ?_
      have h : zPut s kk (Nat.succ b) st t (mPut M b bl) (mk b) = some r := h
      rwa [mPut_eq] at h
  | eff =>
    rw [hk] at h
    unfold zEffG at h
    dsimp only at h
    obtain ⟨v, M', h1, h2⟩ := ansK_some h
    exact .eff hk h1 h2
  | call =>
    rw [hk] at h
    rcases orec_some h with ⟨h0, h⟩ | ⟨p, h1, h⟩
    · obtain ⟨v, h1, h2⟩ := oK_none h
      exact ⟨v, M, b, by unfold Acts; rw [hk]; exact ⟨rfl, .inr ⟨h0, h1, rfl⟩⟩, h2⟩
    · obtain ⟨f, args⟩ := p
      obtain ⟨v, M', h2, h3⟩ := ansK_some h
      exact ⟨v, M', b, by unfold Acts; rw [hk]; exact ⟨rfl, .inl ⟨f, args, h1, h2⟩⟩, h3⟩

theorem zNil_some {x : Value} {k : KV} {y : Operand} (ho : o.op = .nilCheck y) (hy : evS ds st t y = some x) (h : zNil.run x k = some r) : ∃ v, pureV P (evS ds st t) o = some v ∧ k v = some r := by
  unfold zNil at h
  dsimp only at h
  have hp : ∀ u, (match x with | .pointer (some a) => some (Value.pointer (some a)) | _ => none) = some u → pureV P (evS ds st t) o = some u := by
    intro u hu
    simp only [pureV, ho, hy]
    split at hu
    · exact hu
    · cases hu
  rcases vPtr_some h with h | ⟨b, o', rfl, h'⟩
  · obtain ⟨v, h1, h2⟩ := oK_none h; exact ⟨v, hp v h1, h2⟩
  · exact ⟨_, hp _ rfl, h'⟩
theorem zConvI_some {src dst : TypeId} {kd ks : IntKind} {x : Value} {k : KV} (h1 : P.underlying src = some (.int ks)) (h2 : P.underlying dst = some (.int kd)) (h : (zConvI P src dst kd).run x k = some r) : ∃ v, convV P src dst x = some v ∧ k v = some r := by
  unfold zConvI at h
  dsimp only at h
  rcases vNat_some h with h | ⟨k', m, rfl, h'⟩
  · exact oK_none h
  · rcases zFit_some h' with h | ⟨hm, h⟩
    · exact oK_none h
    · exact ⟨_, by simp only [convV, h1, h2, wrap_fit hm], h⟩
theorem zIdxS_some {ty e : TypeId} {inf : TypeInfo} {x y : Value} {k : KV} (h1 : P.underlying ty = some (.slice e)) (h2 : P.info? e = some inf) (h : (zIdxS (zIdxG P ty) inf.size).run x y k = some r) : ∃ v, indexAddrV P ty x y = some v ∧ k v = some r := by
  unfold zIdxS at h
  dsimp only at h
  rcases vSl_some h with h | ⟨b, o, n, cp, rfl, h1'⟩
  · exact oK_none h
  · rcases vNat_some h1' with h | ⟨k', i, rfl, h2'⟩
    · exact oK_none h
    · rcases brec_some h2' with ⟨_, h⟩ | ⟨hb, h⟩
      · exact oK_none h
      · have := Nat.le_of_ble_eq_true hb
        refine ⟨_, ?_, h⟩
        have hc : (0 : Int) ≤ (i : Int) ∧ (i : Int) < (n : Int) := by omega
        simp only [indexAddrV, h1, h2, Int.ofNat_eq_natCast, Int.toNat_natCast]
        rw [if_pos hc]; rfl
theorem zIdxA_some {ty e : TypeId} {n : Nat} {inf : TypeInfo} {x y : Value} {k : KV} (h1 : P.underlying ty = some (.array n e)) (h2 : P.info? e = some inf) (h : (zIdxA (zIdxG P ty) n inf.size).run x y k = some r) : ∃ v, indexAddrV P ty x y = some v ∧ k v = some r := by
  unfold zIdxA at h
  dsimp only at h
  rcases vPtr_some h with h | ⟨b, o, rfl, h1'⟩
  · exact oK_none h
  · rcases vNat_some h1' with h | ⟨k', i, rfl, h2'⟩
    · exact oK_none h
    · rcases brec_some h2' with ⟨_, h⟩ | ⟨hb, h⟩
      · exact oK_none h
      · have := Nat.le_of_ble_eq_true hb
        refine ⟨_, ?_, h⟩
        have hc : (0 : Int) ≤ (i : Int) ∧ (i : Int) < (n : Int) := by omega
        simp only [indexAddrV, h1, h2, Int.ofNat_eq_natCast, Int.toNat_natCast]
        rw [if_pos hc]; rfl
theorem head_drop (l : List Value) (i : Nat) : (lDrop l i).head? = l[i]? := by rw [lDrop_eq, List.head?_drop]
theorem zLoad_some {ty : TypeId} {x : Value} {k : KV} (h : (zLoad P ty).run M x k = some r) : ∃ v, loadV P M.get ty x = some v ∧ k v = some r := by
  unfold zLoad at h
  simp only [underZ_eq, infoZ_eq] at h
  split at h
  · rename_i d i h1 h2
    cases ha : aggT d with
    | true => simp only [ha, cond_true] at h; exact oK_none h
    | false =>
      simp only [ha, cond_false] at h
      unfold zLoad1 at h
      dsimp only at h
      rcases vPtr_some h with h | ⟨b, o, rfl, h'⟩
      · exact oK_none h
      · rcases zRow_some h' with h | ⟨blk, h3, h⟩
        · exact oK_none h
        · rcases lHead_some h with ⟨_, h⟩ | ⟨v, h4, h⟩
          · exact oK_none h
          · exact ⟨v, by simp only [loadV, h3, h1, h2, ha, cond_false, ← h4, head_drop], h⟩
  · exact oK_none h
theorem zOps_some : ∀ {l : List Operand} {k : List Value → Ans}, (zOps ds l).run st t k = some r → ∃ vs, evL (evS ds st t) l = some vs ∧ k vs = some r
  | [], k, h => ⟨[], rfl, h⟩
  | x :: l, k, h => by
    obtain ⟨v, h1, h2⟩ := zOp_some (ds := ds) (x := x) (st := st) (t := t) (k := fun v => (zOps ds l).run st t fun l => k (v :: l)) h
    obtain ⟨vs, h3, h4⟩ := zOps_some h2
    exact ⟨v :: vs, by simp only [evL, h1, h3], h4⟩

theorem zU_some {x : Operand} {f : UU} (h : (zU (zOp ds x) f s).run c kk b st t M = some r) : ∃ v, evS ds st t x = some v ∧ f.run v (zPut s kk b st t M) = some r := zOp_some h
theorem zB_some {x y : Operand} {f : BB} (h : (zB (zOp ds x) (zOp ds y) f s).run c kk b st t M = some r) : ∃ u v, evS ds st t x = some u ∧ evS ds st t y = some v ∧ f.run u v (zPut s kk b st t M) = some r := by
  obtain ⟨u, h1, h2⟩ := zOp_some (k := fun u => (zOp ds y).run st t fun v => f.run u v (zPut s kk b st t M)) h
  obtain ⟨v, h3, h4⟩ := zOp_some h2
  exact ⟨u, v, h1, h3, h4⟩
theorem vagg_one {v : Value} (h : v.cells = #[v]) : v.cells.toList = [v] := by rw [h]
theorem conv_done {src dst : TypeId} {x : Operand} (ho : o.op = .convert src dst x) (h : (zConv P ds (zGeneric P ext ds o s) src dst x s).run c kk b st t M = some r) : Done P ext c ds o s kk b st t M r := by
  unfold zConv at h
  simp only [underZ_eq, infoZ_eq] at h
  split at h
  · rename_i h1 h2
    obtain ⟨v, h3, h⟩ := zU_some h
    obtain ⟨u, h4, h⟩ := zConvI_some h1 h2 h
    exact .pure (by simp [kindOf, ho, h1, h2]) (by simp [pureV, ho, h3, h4]) h
  · exact generic_done h
theorem fieldAddr_done {ty : TypeId} {x : Operand} {f : Nat} (ho : o.op = .fieldAddr ty x f) (h : (zFieldAddr P ds (zGeneric P ext ds o s) ty x f s).run c kk b st t M = some r) : Done P ext c ds o s kk b st t M r := by
  unfold zFieldAddr at h
  simp only [underZ_eq, infoZ_eq] at h
  split at h
  · rename_i fields h1
    split at h
    · rename_i fl h2
      split at h
      · rename_i i h3
        cases h0 : Nat.beq i.size 0 with
        | true => simp only [h0, cond_true] at h; exact generic_done h
        | false =>
          simp only [h0, cond_false] at h
          obtain ⟨v, h4, h⟩ := zU_some h
          unfold zOff at h
          dsimp only at h
          rcases vPtr_some h with h | ⟨bb, oo, rfl, h'⟩
          · cases h
          · have hz : i.size ≠ 0 := by intro hz; rw [hz] at h0; cases h0
            exact .pure (by simp [kindOf, ho]) (by simp only [pureV, ho, h4, fieldAddrV, h1, h2, h3, hz, if_false]; rfl) h'
      · exact generic_done h
    · exact generic_done h
  · exact generic_done h
theorem indexAddr_done {ty : TypeId} {x y : Operand} (ho : o.op = .indexAddr ty x y) (h : (zIndexAddr P ds (zGeneric P ext ds o s) ty x y s).run c kk b st t M = some r) : Done P ext c ds o s kk b st t M r := by
  unfold zIndexAddr at h
  simp only [underZ_eq, infoZ_eq] at h
  split at h
  · rename_i e h1
    split at h
    · rename_i inf h2
      obtain ⟨u, v, h3, h4, h⟩ := zB_some h
      obtain ⟨w, h5, h⟩ := zIdxS_some h1 h2 h
      exact .pure (by simp [kindOf, ho]) (by simp [pureV, ho, h3, h4, h5]) h
    · exact generic_done h
  · rename_i n e h1
    split at h
    · rename_i inf h2
      obtain ⟨u, v, h3, h4, h⟩ := zB_some h
      obtain ⟨w, h5, h⟩ := zIdxA_some h1 h2 h
      exact .pure (by simp [kindOf, ho]) (by simp [pureV, ho, h3, h4, h5]) h
    · exact generic_done h
  · exact generic_done h
theorem store_done {ty : TypeId} {x y : Operand} (ho : o.op = .store ty x y) (h : (zStore P ty (zGeneric P ext ds o s) (zOp ds x) (zOp ds y) s).run c kk b st t M = some r) : Done P ext c ds o s kk b st t M r := by
  unfold zStore at h
  simp only [infoZ_eq] at h
  split at h
  · rename_i i h1
    cases h0 : Nat.beq i.size 1 with
    | false => simp only [h0, cond_false] at h; exact generic_done h
    | true =>
      have hsz := Nat.eq_of_beq_eq_true h0
      simp only [h0, cond_true] at h
      obtain ⟨u, h2, h⟩ := zOp_some (ds := ds) (x := x) (st := st) (t := t) h
      obtain ⟨v, h3, h⟩ := zOp_some (ds := ds) (x := y) (st := st) (t := t) h
      rcases vOne_some h with h | ⟨hv1, hv2, h⟩
      · exact generic_done h
      · rcases vPtr_some h with h | ⟨i', o', rfl, h'⟩
        · exact generic_done h
        · rcases zRow_some h' with h | ⟨blk, h4, h⟩
          · exact generic_done h
          · rcases brec_some h with ⟨_, h⟩ | ⟨hrw, h⟩
            · cases h
            · rcases lHead_some h with ⟨_, h⟩ | ⟨w, h5, h⟩
              · exact generic_done h
              · rw [head_drop] at h5
                have hlt : o' < blk.cells.length := (List.getElem?_eq_some_iff.1 h5).1
                rw [mPut_eq, lSet_eq v _ _ hlt] at h
                refine .eff (by simp [kindOf, ho]) (M' := M.put i' { blk with cells := splice blk.cells o' [v] }) ?_ ?_ (v := undef)
                · have hb : (⟨splice blk.cells o' [v], blk.elem, blk.rw⟩ : Blk) = { blk with cells := splice blk.cells o' [v] } := rfl
                  have hcond : blk.rw = true ∧ v.cells.size = i.size ∧ oneCells v.cells.toList = true ∧ o' + i.size ≤ blk.cells.length := ⟨hrw, by rw [hv2, hsz]; rfl, by rw [hv2]; simp [oneCells, hv1], by omega⟩
                  simp only [effV, ho, h2, h3, storeE, h4, h1]
                  rw [if_pos hcond, vagg_one hv2]
                · rw [← hrw] at h; exact h
  · exact generic_done h

/-! ### rows that are made -/
theorem vSlc_some {d : Ans} {g : Unit → Ans} {f : Nat → Nat → Nat → Nat → Ans} {v : Value} (h : vSlc d g f v = some r) : d = some r ∨ (∃ n c, v = .slice none n c ∧ g () = some r) ∨ ∃ b o n c, v = .slice (some ⟨b, o, none⟩) n c ∧ f b o n c = some r := by
  cases v <;> first | (exact .inl h) | skip
  rename_i a n c
  cases a with
  | none => exact .inr (.inl ⟨n, c, rfl, h⟩)
  | some a =>
    obtain ⟨b, o, sp⟩ := a
    cases sp with
    | none => exact .inr (.inr ⟨b, o, n, c, rfl, h⟩)
    | some _ => exact .inl h
theorem one1_eq (v : Value) : one1 v = v.oneCell' := by cases v <;> rfl
theorem lOnes_eq : ∀ l, lOnes l = oneCells l
  | [] => rfl
  | v :: l => by
    show Bool.rec (motive := fun _ => Bool) false (lOnes l) (one1 v) = _
    rw [lOnes_eq l, one1_eq]
    simp only [oneCells, List.all_cons]
    cases v.oneCell' <;> rfl
theorem lApp_eq (b : List Value) : ∀ a, lApp a b = a ++ b
  | [] => rfl
  | x :: a => by show x :: lApp a b = _; rw [lApp_eq b a]; rfl
theorem lTake_eq : ∀ (n : Nat) (l : List Value), lTake n l = l.take n
  | 0, l => by show [] = _; simp
  | n + 1, [] => rfl
  | n + 1, x :: l => by show x :: lTake n l = _; rw [lTake_eq n l]; rfl
theorem lNil_eq (l : List Value) : lNil l = l.isEmpty := by cases l <;> rfl
theorem lRep_eq (v : Value) : ∀ n, lRep v n = List.replicate n v
  | 0 => rfl
  | n + 1 => by show v :: lRep v n = _; rw [lRep_eq v n]; rfl
theorem mDel_eq (M : Mem) (i : Nat) : mDel M i = M.del i := by
  show Mem.mk M.next (tSet (Nat.succ i) M.tri i none) = _
  rw [tSet_eq]; rfl
theorem contK_some {slow : Ans} {K : Nat → List Value → Ans} {n m : Nat} {l : List Value} (h : contK slow K n m l = some r) : slow = some r ∨ (m ≤ l.length ∧ l.length ≠ 0 ∧ K n (l.take m) = some r) := by
  rcases brec_some h with ⟨h1, h⟩ | ⟨_, h⟩
  · rw [lNil_eq, lDrop_eq] at h1
    have hlen : Nat.sub m 1 < l.length := by
      rcases Nat.lt_or_ge (Nat.sub m 1) l.length with h2 | h2
      · exact h2
      · rw [List.drop_eq_nil_of_le h2] at h1; cases h1
    have hm : m ≤ l.length := by simp only [Nat.sub_eq] at hlen; omega
    refine .inr ⟨hm, by omega, ?_⟩
    rcases brec_some h with ⟨h2, h⟩ | ⟨h2, h⟩
    · rwa [lTake_eq] at h
    · rw [lNil_eq, lDrop_eq] at h2
      have : l.length ≤ m := by simpa using h2
      rwa [List.take_of_length_le this]
  · exact .inl h
theorem zCont_some {slow : Ans} {K : Nat → List Value → Ans} {sz : Nat} {x : Value} (h : zCont slow K sz M x = some r) : slow = some r ∨ ((∃ a n c, x = .slice a n c) ∧ ∃ n l, contentV M.get sz x = some (n, l) ∧ K n l = some r) := by
  unfold zCont at h
  rcases vSlc_some h with h | ⟨n, c', rfl, h'⟩ | ⟨b, o', n, c', rfl, h'⟩
  · exact .inl h
  · exact .inr ⟨⟨_, _, _, rfl⟩, 0, [], rfl, h'⟩
  · rcases brec_some h' with ⟨h0, h1⟩ | ⟨h0, h1⟩
    · have hn : n ≠ 0 := by rintro rfl; cases h0
      rcases zRow_some h1 with h | ⟨blk, h2, h1⟩
      · exact .inl h
      · rcases contK_some h1 with h | ⟨h3, h5, h1⟩
        · exact .inl h
        · rw [lDrop_eq] at h1 h3 h5
          rw [List.length_drop] at h3 h5
          refine .inr ⟨⟨_, _, _, rfl⟩, n, _, ?_, h1⟩
          have h4 : o' + n * sz ≤ blk.cells.length := by
            have : Nat.mul n sz = n * sz := rfl
            omega
          simp only [contentV, hn, if_false, h2, if_pos h4]; rfl
    · have hn : n = 0 := Nat.eq_of_beq_eq_true h0
      subst hn
      exact .inr ⟨⟨_, _, _, rfl⟩, 0, [], rfl, h1⟩
theorem grow_eq {e : TypeId} {cells : List Value} {n bk : Nat} (h : zGrow s kk bk st t M e cells n = some r) : zPut s kk bk st t (grownE P M e cells n).2 (grownE P M e cells n).1 = some r := by
  have h : zPut s kk bk st t ⟨Nat.succ M.next, tSet (Nat.succ M.next) M.tri M.next (some ⟨cells, e, true⟩)⟩ (.slice (some ⟨M.next, 0, none⟩) n unk) = some r := h
  rw [tSet_eq] at h
  unfold grownE
  rw [Mem.put_eq]
  exact h
theorem append_done {cl : Call} {p q : Operand} {ty tx : TypeId} (ho : o.op = .call cl) (hc : cl.callee = .builtin .append) (ha : cl.args.toList = [p, q]) (ht : cl.argTypes.toList = [ty, tx])
    (h : (zAppend P ds (zGeneric P ext ds o s) p q ty tx s).run c kk b st t M = some r) : Done P ext c ds o s kk b st t M r := by
  have hk : kindOf P o = .eff := by simp [kindOf, ho, hc]
  unfold zAppend at h
  simp only [underZ_eq, infoZ_eq, zeroZ_eq] at h
  split at h
  · rename_i e d h1 h2
    split at h
    · rename_i i z h3 h4
      cases hg : (isObj e || isInt d || Nat.beq i.bytes 0 || !(Nat.beq z.size i.size)) with
      | true => simp only [hg, cond_true] at h; exact generic_done h
      | false =>
        simp only [hg, cond_false] at h
        simp only [Bool.or_eq_false_iff, Bool.not_eq_false'] at hg
        obtain ⟨⟨⟨g1, g2⟩, g3⟩, g4⟩ := hg
        have hcond : ¬ (isObj e = true ∨ isInt d = true ∨ i.bytes = 0 ∨ z.size ≠ i.size) := by
          rw [g1, g2]
          have h5 : i.bytes ≠ 0 := by intro h0; rw [h0] at g3; cases g3
          have h6 : z.size = i.size := Nat.eq_of_beq_eq_true g4
          simp [h5, h6]
        obtain ⟨x, hx, h⟩ := zOp_some (ds := ds) (x := p) (st := st) (t := t) h
        obtain ⟨y, hy, h⟩ := zOp_some (ds := ds) (x := q) (st := st) (t := t) h
        rcases zCont_some h with h | ⟨⟨a, n1, c1, hxs⟩, k, olds, h5, h⟩
        · exact generic_done h
        · rcases zCont_some h with h | ⟨_, n, news, h6, h⟩
          · exact generic_done h
          · have heff : ∀ v M', (match x with
              | .slice none _ _ => if n = 0 then some (x, M) else if (k + n) * i.bytes ≤ 140737488355328 then some (grownE P M e (olds ++ news) (k + n)) else none
              | .slice (some ⟨b, o, none⟩) k' c => if n = 0 then some (x, M) else if (k + n) * i.bytes ≤ 140737488355328 ∧ k = k' ∧ oneCells news = true then
                  if c ≠ unk ∧ c < k + n then some (grownE P M e (olds ++ news) (k + n)) else match rowsOf M.get b with
                  | some blk => if blk.rw = true ∧ blk.elem = e then some (grownE P (M.del b) e (olds ++ news) (k + n)) else none
                  | none => none
                else none
              | _ => none) = some (v, M') → effV P (evS ds st t) M o = some (v, M') := by
              intro v M' hv
              simp only [effV, ho, hc, ha, ht, hx, hy, appendE, h1, h2, h3, h4, if_neg hcond, h5, h6]
              exact hv
            unfold zApp2 at h
            rcases brec_some h with ⟨h0, h⟩ | ⟨h0, h⟩
            · have hn : n ≠ 0 := by rintro rfl; cases h0
              rcases brec_some h with ⟨_, h⟩ | ⟨hle, h⟩
              · exact generic_done h
              · have hle : (k + n) * i.bytes ≤ 140737488355328 := Nat.le_of_ble_eq_true hle
                rcases vSlc_some h with h | ⟨n2, c2, rfl, h⟩ | ⟨b2, o2, k', c2, rfl, h⟩
                · exact generic_done h
                · rw [lApp_eq] at h
                  refine .eff hk (heff _ _ ?_) (grow_eq (P := P) h)
                  simp only [hn, if_false, if_pos hle]; rfl
                · rcases brec_some h with ⟨_, h⟩ | ⟨hkk, h⟩
                  · exact generic_done h
                  · have hkk : k = k' := Nat.eq_of_beq_eq_true hkk
                    rcases brec_some h with ⟨_, h⟩ | ⟨hon, h⟩
                    · exact generic_done h
                    · rw [lOnes_eq] at hon
                      have hc3 : (k + n) * i.bytes ≤ 140737488355328 ∧ k = k' ∧ oneCells news = true := ⟨hle, hkk, hon⟩
                      rcases brec_some h with ⟨hroom, h⟩ | ⟨hroom, h⟩
                      · have hno : ¬ (c2 ≠ unk ∧ c2 < k + n) := by
                          intro hh
                          have h7 : Nat.beq c2 unk = false := by
                            cases hb : Nat.beq c2 unk with
                            | false => rfl
                            | true => exact absurd (Nat.eq_of_beq_eq_true hb) hh.1
                          rw [h7] at hroom
                          have h8 : Nat.ble (Nat.succ c2) (Nat.add k n) = true := Nat.ble_eq_true_of_le hh.2
                          have hroom : Nat.ble (Nat.succ c2) (Nat.add k n) = false := hroom
                          rw [h8] at hroom; cases hroom
                        rcases zRow_some h with h | ⟨blk, h9, h⟩
                        · exact generic_done h
                        · rcases brec_some h with ⟨_, h⟩ | ⟨hrw, h⟩
                          · exact generic_done h
                          · rcases brec_some h with ⟨_, h⟩ | ⟨hel, h⟩
                            · exact generic_done h
                            · rw [lApp_eq, mDel_eq] at h
                              refine .eff hk (heff _ _ ?_) (grow_eq (P := P) h)
                              have hc4 : blk.rw = true ∧ blk.elem = e := ⟨hrw, Nat.eq_of_beq_eq_true hel⟩
                              simp only [hn, if_false, if_pos hc3, if_neg hno, h9, if_pos hc4]; rfl
                      · have hyes : c2 ≠ unk ∧ c2 < k + n := by
                          cases hb : Nat.beq c2 unk with
                          | true => rw [hb] at hroom; cases hroom
                          | false =>
                            rw [hb] at hroom
                            exact ⟨by intro h0; rw [h0] at hb; rw [beq_iff] at hb; simp at hb, Nat.le_of_ble_eq_true hroom⟩
                        rw [lApp_eq] at h
                        refine .eff hk (heff _ _ ?_) (grow_eq (P := P) h)
                        simp only [hn, if_false, if_pos hc3, if_pos hyes]; rfl
            · have hn : n = 0 := Nat.eq_of_beq_eq_true h0
              subst hn
              subst hxs
              refine .eff hk (heff _ _ ?_) h
              cases a with
              | none => rfl
              | some a =>
                obtain ⟨b2, o2, sp⟩ := a
                cases sp with
                | none => rfl
                | some sp => simp only [contentV, reduceCtorEq] at h5
    · exact generic_done h
  · exact generic_done h
theorem inOrder_evP {f : Operand → Option Value} : ∀ (l : List (Nat × Operand)) (j : Nat) (vs : List Value), inOrder j l = true → evL f (l.map (·.2)) = some vs → evP f l = some ((List.range' j vs.length).zip vs) ∧ vs.length = l.length
  | [], j, vs, _, h => by simp only [List.map_nil, evL, Option.some.injEq] at h; subst h; exact ⟨rfl, rfl⟩
  | (i, x) :: l, j, vs, ho, h => by
    simp only [inOrder, Bool.and_eq_true] at ho
    have hi : i = j := Nat.eq_of_beq_eq_true ho.1
    subst hi
    simp only [List.map_cons, evL] at h
    split at h
    · rename_i v us h1 h2
      cases h
      obtain ⟨h3, h4⟩ := inOrder_evP l (i + 1) us ho.2 h2
      refine ⟨?_, by simp [h4]⟩
      simp only [evP, h1, h3, List.length_cons, List.range'_succ, List.zip_cons_cons]
    · cases h
theorem one_cells {v : Value} (h : v.oneCell' = true) : v.cells = #[v] := by cases v <;> first | rfl | cases h
theorem fill_order : ∀ (vs : List Value) (j : Nat) (A : Array Value), oneCells vs = true → A.size = j + vs.length →
    Instr.fill (fun n => some (n * 1, 1)) A ((List.range' j vs.length).zip vs) = some (A.toList.take j ++ vs).toArray
  | [], j, A, _, hA => by
    simp only [List.length_nil, List.range'_zero, List.zip_nil_left, Instr.fill, List.append_nil]
    rw [List.take_of_length_le (by simpa using Nat.le_of_eq hA)]
  | v :: vs, j, A, ho, hA => by
    simp only [oneCells, List.all_cons, Bool.and_eq_true] at ho
    have hv := one_cells ho.1
    simp only [List.length_cons] at hA
    simp only [List.length_cons, List.range'_succ, List.zip_cons_cons, Instr.fill, hv]
    have hlt : j < A.size := by omega
    have hcond : ¬ ((#[v].size ≠ 1 || j * 1 + #[v].size > A.size) = true) := by
      simp; omega
    rw [if_neg (by simpa using hcond)]
    have hset : (#[v].zipIdx.foldl (fun cs (x : Value × Nat) => cs.setIfInBounds (j * 1 + x.2) x.1) A) = A.setIfInBounds j v := by simp
    rw [show (#[v].zipIdx.foldl (fun cs x => match x with | (c, k) => cs.setIfInBounds (j * 1 + k) c) A) = A.setIfInBounds j v from by simp]
    rw [fill_order vs (j + 1) _ ho.2 (by simp; omega)]
    congr 2
    rw [Array.toList_setIfInBounds, List.take_set, ]
    have : A.toList.take (j + 1) = A.toList.take j ++ [A.toList[j]'(by simpa using hlt)] := by rw [List.take_succ_eq_append_getElem]
    rw [this, List.set_append_right _ _ (by simp; exact Nat.min_le_left _ _)]
    have hmin : min j A.size = j := Nat.min_eq_left (Nat.le_of_lt hlt)
    simp [hmin]
theorem buildS_done {ty : TypeId} {len : Nat} {parts : Array (Nat × Operand)} (ho : o.op = .buildSlice ty len parts) (h : (zBuildS P ds (zGeneric P ext ds o s) ty len parts.toList s).run c kk b st t M = some r) : Done P ext c ds o s kk b st t M r := by
  unfold zBuildS at h
  simp only [underZ_eq, infoZ_eq, zeroZ_eq] at h
  split at h
  · rename_i e h1
    split at h
    · rename_i i z h2 h3
      cases hg : (Nat.beq i.size 1 && Nat.ble len 16777216 && Nat.beq parts.toList.length len && inOrder 0 parts.toList && plains z && !(Nat.beq z.size 0) && !(isObj e)) with
      | false => simp only [hg, cond_false] at h; exact generic_done h
      | true =>
        simp only [hg, cond_true] at h
        simp only [Bool.and_eq_true, Bool.not_eq_true'] at hg
        obtain ⟨⟨⟨⟨⟨⟨g1, g2⟩, g3⟩, g4⟩, g5⟩, g6⟩, g7⟩ := hg
        have hsz : i.size = 1 := Nat.eq_of_beq_eq_true g1
        have hle : len ≤ 16777216 := Nat.le_of_ble_eq_true g2
        have hpl : parts.toList.length = len := Nat.eq_of_beq_eq_true g3
        have hz : z.size ≠ 0 := by intro h0; rw [h0] at g6; cases g6
        have h : (zOps ds (parts.toList.map (·.2))).run st t (fun vs => Bool.rec (motive := fun _ => Ans) ((zGeneric P ext ds o s).run c kk b st t M) (zPut s kk (Nat.succ b) st t (mPut M b ⟨vs, e, true⟩) (.slice (some ⟨b, 0, none⟩) len len)) (lOnes vs)) = some r := h
        obtain ⟨vs, h4, h⟩ := zOps_some h
        rcases brec_some h with ⟨_, h⟩ | ⟨hon, h⟩
        · exact generic_done h
        · rw [lOnes_eq] at hon
          rw [mPut_eq] at h
          obtain ⟨h5, h6⟩ := inOrder_evP _ _ _ g4 h4
          have hlen : vs.length = len := h6.trans hpl
          refine .alloc (by simp [kindOf, ho]) (bl := ⟨vs, e, true⟩) (mk := rowTo len len) ?_ h
          have hfill : ∀ z' : Array Value, Instr.fill (fun n => some (n, 1)) ((Array.range len).map (z'[· % z'.size]!)) ((List.range' 0 vs.length).zip vs) = some vs.toArray := by
            intro z'
            have := fill_order vs 0 ((Array.range len).map (z'[· % z'.size]!)) hon (by simp [hlen])
            simp only [Nat.mul_one] at this
            rw [this]
            simp
          have h0 : allocA0 P (evS ds st t) (.buildSlice ty len parts) = some (⟨vs, e, true⟩, rowTo len len) := by
            simp only [allocA0, h1, h5, h2, hsz, Nat.mul_one, if_pos hle]
            by_cases hl : len = 0
            · subst hl
              have hv : vs = [] := List.length_eq_zero_iff.1 hlen
              subst hv
              simp [Instr.fill, plains]
            · simp only [hl, if_false, h3, hfill]
              have hc : vs.toArray.size = len ∧ plains z = true ∧ (False ∨ z.size ≠ 0) := ⟨by simpa using hlen, g5, .inr hz⟩
              rw [if_pos hc]
          simp only [allocA, ho, h0, g7, cond_false]
    · exact generic_done h
  · exact generic_done h
theorem makeS_done {ty : TypeId} {p q : Operand} (ho : o.op = .makeSlice ty p q) (h : (zMakeS P ds (zGeneric P ext ds o s) ty p q s).run c kk b st t M = some r) : Done P ext c ds o s kk b st t M r := by
  unfold zMakeS at h
  simp only [underZ_eq, infoZ_eq, zeroZ_eq] at h
  split at h
  · rename_i e h1
    split at h
    · rename_i i z h2 h3
      split at h
      · rename_i v hzv
        cases hg : (Nat.beq i.size 1 && plains z && !(isObj e)) with
        | false => simp only [hg, cond_false] at h; exact generic_done h
        | true =>
          simp only [hg, cond_true] at h
          simp only [Bool.and_eq_true, Bool.not_eq_true'] at hg
          obtain ⟨⟨g1, g5⟩, g7⟩ := hg
          have hsz : i.size = 1 := Nat.eq_of_beq_eq_true g1
          obtain ⟨x, hx, h⟩ := zOp_some (ds := ds) (x := p) (st := st) (t := t) h
          obtain ⟨y, hy, h⟩ := zOp_some (ds := ds) (x := q) (st := st) (t := t) h
          rcases vNat_some (v := x) h with h | ⟨k1, l, rfl, h'⟩
          · exact generic_done h
          · rcases vNat_some (v := y) h' with h | ⟨k2, n, rfl, h⟩
            · exact generic_done h
            · rcases brec_some h with ⟨_, h⟩ | ⟨hb1, h⟩
              · exact generic_done h
              · rcases brec_some h with ⟨_, h⟩ | ⟨hb2, h⟩
                · exact generic_done h
                · rcases brec_some h with ⟨_, h⟩ | ⟨hb3, h⟩
                  · exact generic_done h
                  · rw [mPut_eq, lRep_eq] at h
                    have e1 : l ≤ n := Nat.le_of_ble_eq_true hb1
                    have e2 : n ≤ 281474976710656 := Nat.le_of_ble_eq_true hb2
                    have e3 : i.bytes * n ≤ 281474976710656 := Nat.le_of_ble_eq_true hb3
                    refine .alloc (by simp [kindOf, ho]) (bl := ⟨List.replicate n v, e, true⟩) (mk := rowTo l n) ?_ h
                    have hzs : z.size = 1 := by
                      have := congrArg List.length hzv
                      simpa using this
                    have hz0 : ∀ i, z[i % z.size]! = v := by
                      intro i
                      rw [hzs, Nat.mod_one]
                      have : z = #[v] := by apply Array.ext'; simpa using hzv
                      rw [this]; rfl
                    have hcells : zcells z n = List.replicate n v := by
                      unfold zcells
                      apply List.ext_getElem
                      · simp
                      · intro i h1 h2; simp [hz0]
                    have hcond : (0 : Int) ≤ Int.ofNat l ∧ (Int.ofNat l : Int) ≤ Int.ofNat n ∧ (Int.ofNat n : Int) ≤ 281474976710656 ∧ (i.bytes : Int) * Int.ofNat n ≤ 281474976710656 := by
                      simp only [Int.ofNat_eq_natCast]
                      refine ⟨by omega, by omega, by omega, ?_⟩
                      have : ((i.bytes * n : Nat) : Int) ≤ 281474976710656 := by omega
                      simpa using this
                    have h0 : allocA0 P (evS ds st t) (.makeSlice ty p q) = some (⟨List.replicate n v, e, true⟩, rowTo l n) := by
                      simp only [allocA0, h1, hx, hy, h2, hsz, Nat.mul_one]
                      rw [if_pos hcond]
                      simp only [Int.ofNat_eq_natCast, Int.toNat_natCast]
                      by_cases hn : n = 0
                      · subst hn
                        simp [plains, zcells]
                      · simp only [hn, if_false, h3]
                        have hc : plains z = true ∧ (False ∨ z.size ≠ 0) := ⟨g5, .inr (by omega)⟩
                        rw [if_pos hc, hcells]
                    simp only [allocA, ho, h0, g7, cond_false]
      · exact generic_done h
    · exact generic_done h
  · exact generic_done h
theorem callee_done {cl : Call} (ho : o.op = .call cl) (h : (zCallee P ds (zGeneric P ext ds o s) cl s).run c kk b st t M = some r) : Done P ext c ds o s kk b st t M r := by
  unfold zCallee at h
  split at h
  · rename_i f hc
    rw [callableZ_eq] at h
    cases hcb : callable P f with
    | false => simp only [hcb, cond_false] at h; exact generic_done h
    | true =>
      simp only [hcb, cond_true] at h
      obtain ⟨vs, h1, h⟩ := zOps_some (k := fun l => ansK (fun v M' => zPut s kk b st t M' v) (c.call f l M)) h
      obtain ⟨v, M', h2, h3⟩ := ansK_some h
      refine ⟨v, M', b, ?_, h3⟩
      have hk : kindOf P o = .call := by simp [kindOf, ho, hc]
      unfold Acts; rw [hk]
      refine ⟨rfl, .inl ⟨f, #[] ++ vs.toArray ++ #[], ?_, by simpa using h2⟩⟩
      simp only [callOf, ho, hc, evS, h1, hcb, cond_true]
  · rename_i bi hc
    unfold zBuiltin at h
    simp only [underZ_eq] at h
    split at h
    · rename_i x ty h1 h2
      split at h
      · rename_i e h3
        obtain ⟨v, h4, h⟩ := zU_some h
        unfold zLenS at h
        dsimp only at h
        rcases vLen_some h with h | ⟨a, n, cp, rfl, h'⟩
        · cases h
        · refine .pure (by simp [kindOf, ho, hc, h2, h3]) ?_ h'
          simp only [pureV, ho, hc, h1, evL, h4, h2, lenV, h3]; rfl
      · exact generic_done h
    · rename_i h1 h2; exact append_done ho hc h1 h2 h
    · exact generic_done h
  · exact generic_done h
theorem open_done (h : (zOpen P ext ds o s).run c kk b st t M = some r) : Done P ext c ds o s kk b st t M r := by
  unfold zOpen at h
  split at h
  · rename_i x ho
    obtain ⟨v, h1, h2⟩ := zOp_some h
    exact .pure (by simp [kindOf, ho]) (by simp [pureV, ho, h1]) h2
  · rename_i x ho
    obtain ⟨v, h1, h2⟩ := zOp_some h
    exact .pure (by simp [kindOf, ho]) (by simp [pureV, ho, h1]) h2
  · rename_i c' x y ho
    obtain ⟨u, h1, h⟩ := zOp_some (ds := ds) (x := c') (st := st) (t := t) h
    obtain ⟨v, h2, h⟩ := zOp_some (ds := ds) (x := x) (st := st) (t := t) h
    obtain ⟨w, h3, h⟩ := zOp_some (ds := ds) (x := y) (st := st) (t := t) h
    rcases vBool_some h with h | ⟨q, rfl, h'⟩
    · cases h
    · cases q with
      | false => exact .pure (by simp [kindOf, ho]) (by simp [pureV, ho, h1, h2, h3]) h'
      | true => exact .pure (by simp [kindOf, ho]) (by simp [pureV, ho, h1, h2, h3]) h'
  · rename_i x ho
    obtain ⟨v, h1, h2⟩ := zU_some h
    obtain ⟨u, h3, h4⟩ := zNil_some (P := P) ho h1 h2
    exact .pure (by simp [kindOf, ho]) h3 h4
  · rename_i op ty x y yt ho
    obtain ⟨u, v, h1, h2, h⟩ := zB_some h
    obtain ⟨w, h3, h4⟩ := zBin_some h
    exact .pure (by simp [kindOf, ho]) (by simp [pureV, ho, h1, h2, h3]) h4
  · rename_i ho; exact conv_done ho h
  · rename_i ho; exact fieldAddr_done ho h
  · rename_i ho; exact indexAddr_done ho h
  · rename_i x i ho
    obtain ⟨v, h1, h⟩ := zU_some h
    unfold zTupAt at h
    dsimp only at h
    rcases vTup_some h with h | ⟨vs, rfl, h'⟩
    · cases h
    · rcases lHead_some h' with ⟨_, h⟩ | ⟨u, h2, h⟩
      · cases h
      · rw [head_drop] at h2
        exact .pure (by simp [kindOf, ho]) (by simp only [pureV, ho, h1, extractV]; rw [← h2]; simp) h
  · rename_i ty x ho
    obtain ⟨u, h1, h⟩ := zOp_some h
    obtain ⟨v, h2, h⟩ := zLoad_some h
    exact .read (by simp [kindOf, ho]) (by simp [readV, ho, h1, h2]) h
  · rename_i ho; exact store_done ho h
  · rename_i ty x ho
    cases hob : isObj ty with
    | true => simp only [hob, cond_true] at h; exact generic_done h
    | false =>
      simp only [hob, cond_false] at h
      obtain ⟨v, h1, h⟩ := zOp_some (ds := ds) (x := x) (st := st) (t := t) h
      rcases vOne_some h with h | ⟨hv1, hv2, h⟩
      · exact generic_done h
      · rw [mPut_eq] at h
        refine .alloc (by simp [kindOf, ho]) (bl := ⟨[v], ty, true⟩) (mk := ptrTo) ?_ h
        simp only [allocA, ho, allocA0, h1, hob, cond_false, vagg_one hv2]
  · rename_i ho; exact callee_done ho h
  · rename_i ho; exact buildS_done ho h
  · rename_i ho; exact makeS_done ho h
  · exact generic_done h
end
end Go.Proofs.YtopblipficpilaaGreatDoor.AY

/- The layer: the quick machine: more that is known does no harm; regions. -/
namespace Go.Proofs.YtopblipficpilaaGreatDoor.AY
open Go
set_option linter.unusedVariables false
set_option linter.unusedSimpArgs false

section
variable {f g : Operand → Option Value} (hs : EvSub f g)
include hs
theorem evL_sub : ∀ {l : List Operand} {vs : List Value}, evL f l = some vs → evL g l = some vs
  | [], vs, h => h
  | x :: l, vs, h => by
    simp only [evL] at h ⊢
    split at h
    · rename_i v us h1 h2; simp only [hs _ _ h1, evL_sub h2]; exact h
    · cases h
theorem evP_sub : ∀ {l : List (Nat × Operand)} {vs : List (Nat × Value)}, evP f l = some vs → evP g l = some vs
  | [], vs, h => h
  | (i, x) :: l, vs, h => by
    simp only [evP] at h ⊢
    split at h
    · rename_i v us h1 h2; simp only [hs _ _ h1, evP_sub h2]; exact h
    · cases h
theorem evO_sub {x : Option Operand} {r : Option Value} (h : evO f x = some r) : evO g x = some r := by
  cases x with
  | none => exact h
  | some x =>
    simp only [evO] at h ⊢
    cases hx : f x with
    | none => simp [hx] at h
    | some v => rw [hs _ _ hx]; rw [hx] at h; exact h
theorem evL_same {l : List Operand} (hk : ∀ x, x ∈ l → ∃ v, f x = some v) : evL g l = evL f l := by
  induction l with
  | nil => rfl
  | cons x l ih =>
    obtain ⟨v, hv⟩ := hk x (by simp)
    simp only [evL, hv, hs _ _ hv]
    rw [ih fun y hy => hk y (by simp [hy])]
theorem pureV_sub {P : Program} {o : Oper} {v : Value} (h : pureV P f o = some v) : pureV P g o = some v := by
  unfold pureV at h ⊢
  split at h
  all_goals (rename_i ho)
  case h_1 => exact hs _ _ h
  case h_2 => exact hs _ _ h
  case h_17 =>
    split at h
    · rename_i h1 h2; simp only [h1, evL_sub hs h2]; exact h
    · rename_i h1 h2; simp only [h1, evL_sub hs h2]; exact h
    · rename_i h1 h2; simp only [h1, evL_sub hs h2]; exact h
    · rename_i h1 h2; simp only [h1, evL_sub hs h2]; exact h
    · cases h
  case h_18 => cases h
  all_goals
    split at h <;> first
      | (cases h; done)
      | (rename_i h1 h2 h3 h4; simp only [hs _ _ h1, evO_sub hs h2, evO_sub hs h3, evO_sub hs h4]; exact h)
      | (rename_i h1 h2 h3; simp only [hs _ _ h1, hs _ _ h2, hs _ _ h3]; exact h)
      | (rename_i h1 h2; simp only [hs _ _ h1, hs _ _ h2]; exact h)
      | (rename_i h1 h2; simp only [evL_sub hs h1, evL_sub hs h2]; exact h)
      | (rename_i h1; simp only [evP_sub hs h1]; exact h)
      | (rename_i h1; simp only [hs _ _ h1]; exact h)
theorem readV_sub {P : Program} {o : Oper} {m : Mm} {v : Value} (h : readV P f m o = some v) : readV P g m o = some v := by
  unfold readV at h ⊢
  split at h
  all_goals (rename_i ho)
  case h_6 =>
    split at h
    · rename_i h1 h2; simp only [h1, evL_sub hs h2]; exact h
    · cases h
  case h_7 => cases h
  all_goals
    split at h <;> first
      | (cases h; done)
      | (rename_i h1 h2 h3 h4; simp only [hs _ _ h1, evO_sub hs h2, evO_sub hs h3, evO_sub hs h4]; exact h)
      | (rename_i h1 h2; simp only [hs _ _ h1, hs _ _ h2]; exact h)
      | (rename_i h1; simp only [hs _ _ h1]; exact h)
theorem allocA0_sub {P : Program} {op : Op} {r : Blk × (Nat → Value)} (h : allocA0 P f op = some r) : allocA0 P g op = some r := by
  unfold allocA0 at h ⊢
  split at h
  case h_1 => exact h
  case h_2 =>
    split at h
    · rename_i h1; simp only [hs _ _ h1]; exact h
    · cases h
  case h_3 =>
    split at h
    · rename_i h1 h2; simp only [h1, evP_sub hs h2]; exact h
    · cases h
  case h_4 =>
    split at h
    · rename_i h1 h2 h3; simp only [h1, hs _ _ h2, hs _ _ h3]; exact h
    · cases h
  case h_5 =>
    split at h
    · rename_i h1 h2 h3; simp only [h1, h2, hs _ _ h3]; exact h
    · cases h
  case h_6 => cases h
theorem allocA_sub {P : Program} {op : Op} {r : Blk × (Nat → Value)} (h : allocA P f op = some r) : allocA P g op = some r := by
  unfold allocA at h ⊢
  split at h
  · exact h
  · split at h
    · rename_i h1; simp only [allocA0_sub hs h1]; exact h
    · cases h
theorem effV_sub {P : Program} {o : Oper} {M : Mem} {r : Value × Mem} (h : effV P f M o = some r) : effV P g M o = some r := by
  unfold effV at h ⊢
  split at h
  all_goals (rename_i ho)
  case h_1 =>
    split at h
    · rename_i h1 h2; simp only [hs _ _ h1, hs _ _ h2]; exact h
    · cases h
  case h_2 =>
    split at h
    · rename_i h1 h2 h3
      split at h
      · rename_i h4 h5; simp only [hs _ _ h4, hs _ _ h5]; exact h
      · cases h
    · rename_i h1 h2 h3
      split at h
      · rename_i h4 h5; simp only [hs _ _ h4, hs _ _ h5]; exact h
      · cases h
    · rename_i h1 h2 h3
      split at h
      · rename_i h4 h5; simp only [hs _ _ h4, hs _ _ h5]; exact h
      · cases h
    · cases h
  case h_3 =>
    split at h
    · rename_i h1 h2 h3; simp only [hs _ _ h1, hs _ _ h2, hs _ _ h3]; exact h
    · cases h
  case h_4 =>
    split at h
    · rename_i h1 h2; simp only [h1, hs _ _ h2]; exact h
    · cases h
  case h_5 =>
    split at h
    · rename_i h1; simp only [hs _ _ h1]; exact h
    · cases h
  case h_6 => cases h
theorem callOf_sub {P : Program} {o : Oper} {r : FuncId × Array Value} (h : callOf P f o = some r) : callOf P g o = some r := by
  unfold callOf at h ⊢
  split at h
  · rename_i cl ho
    split at h
    · rename_i x hc
      split at h
      · rename_i h1 h2; simp only [hs _ _ h1, evL_sub hs h2]; exact h
      · cases h
    · rename_i x n hc
      split at h
      · rename_i h1 h2; simp only [hs _ _ h1, evL_sub hs h2]; exact h
      · cases h
    · cases h
  · cases h
theorem callOf_none {P : Program} {o : Oper} (hk : Known f o) (h : callOf P f o = none) : callOf P g o = none := by
  have key : callOf P g o = callOf P f o := by
    unfold callOf
    cases ho : o.op <;> try rfl
    rename_i cl
    simp only [Known, ho, Op.operands, Call.operands] at hk
    cases hc : cl.callee with
    | value x =>
      simp only [hc] at hk ⊢
      obtain ⟨v, hv⟩ := hk x (by simp)
      rw [hv, hs _ _ hv, evL_same hs fun y hy => hk y (by simp; exact .inr (by simpa using hy))]
    | invoke x n =>
      simp only [hc] at hk ⊢
      obtain ⟨v, hv⟩ := hk x (by simp)
      rw [hv, hs _ _ hv, evL_same hs fun y hy => hk y (by simp; exact .inr (by simpa using hy))]
    | builtin b => simp only [hc]
  rw [key]; exact h
theorem Known.sub {o : Oper} (hk : Known f o) : Known g o := fun x hx => let ⟨v, hv⟩ := hk x hx; ⟨v, hs _ _ hv⟩
theorem EffOk.sub {P : Program} {o : Oper} {M M' : Mem} {v : Value} (hk : Known f o) (h : EffOk P o f M v M') : EffOk P o g M v M' :=
  fun ρ a w K Q ho => h ρ a w K Q fun x hx => by
    obtain ⟨u, h1, h2⟩ := ho x hx
    obtain ⟨v, hv⟩ := hk x hx
    have := hs _ _ hv
    rw [h1] at this; cases this
    exact ⟨u, hv, h2⟩
end

/-- whether a guard lets an operation be done: what is known of it holds -/
theorem want_sub {ops : Array Oper} {o : Oper} {e : Env} {f : Operand → Option Value} (hs : EvSub f (AY.aev e)) {b : Bool} (h : wantS ops f o = some b) : wantA ops e o = some b := by
  unfold wantS at h
  unfold wantA
  cases hg : o.guard with
  | none => simp only [hg] at h ⊢; exact h
  | some jw =>
    obtain ⟨j, w⟩ := jw
    simp only [hg] at h ⊢
    cases hd : (ops[j]?).bind (·.dst) with
    | none => simp only [hd] at h ⊢; exact h
    | some s =>
      simp only [hd] at h ⊢
      cases hv : f (.tmp s) with
      | none => simp [hv] at h
      | some v =>
        have : e.get s = some v := hs (.tmp s) v hv
        rw [hv] at h
        rw [this]
        cases v <;> first | exact h | (cases h; done)

section
variable {P : Program} {ext : ExtF} {c : CC} (hcall : ∀ f args M v M', c.call f args M = some (v, M') → ACall P f args.toArray M v M') (hext : ∀ ev M o v, ext ev M o = some v → Known ev o ∧ EffOk P o ev M v M)

/-- an operation that was done, told of the environment -/
def ActsE (P : Program) (o : Oper) (ev : Operand → Option Value) (B M : Mem) (b : Nat) (v : Value) (M' : Mem) (b' : Nat) : Prop := match kindOf P o with
  | .pure => pureV P ev o = some v ∧ M' = M ∧ b' = b
  | .read => readV P ev B.get o = some v ∧ M' = M ∧ b' = b
  | .alloc => ∃ bl mk, allocA P ev o.op = some (bl, mk) ∧ v = mk b ∧ M' = M.put b bl ∧ b' = b + 1
  | .eff => effV P ev M o = some (v, M') ∧ b' = b
  | .call => b' = b ∧ ((∃ f args, callOf P ev o = some (f, args) ∧ ACall P f args M v M') ∨ (callOf P ev o = none ∧ Known ev o ∧ EffOk P o ev M v M'))
include hcall hext in
theorem Acts.sub {o : Oper} {f g : Operand → Option Value} (hs : EvSub f g) {B M M' : Mem} {b b' : Nat} {v : Value} (h : Acts P ext c o f B M b v M' b') : ActsE P o g B M b v M' b' := by
  unfold Acts at h
  unfold ActsE
  cases hk : kindOf P o with
  | pure => simp only [hk] at h ⊢; exact ⟨pureV_sub hs h.1, h.2⟩
  | read => simp only [hk] at h ⊢; exact ⟨readV_sub hs h.1, h.2⟩
  | alloc => simp only [hk] at h ⊢; obtain ⟨bl, mk, h1, h2⟩ := h; exact ⟨bl, mk, allocA_sub hs h1, h2⟩
  | eff => simp only [hk] at h ⊢; exact ⟨effV_sub hs h.1, h.2⟩
  | call =>
    simp only [hk] at h ⊢
    obtain ⟨rfl, h⟩ := h
    refine ⟨rfl, ?_⟩
    rcases h with ⟨fn, args, h1, h2⟩ | ⟨h1, h2, rfl⟩
    · exact .inl ⟨fn, args, callOf_sub hs h1, hcall _ _ _ _ _ h2⟩
    · obtain ⟨h3, h4⟩ := hext _ _ _ _ h2
      exact .inr ⟨callOf_none hs h3 h1, h3.sub hs, h4.sub hs h3⟩

/-- what a region's operation comes to -/
def Steps1 (P : Program) (ops : Array Oper) (k : Nat) (o : Oper) (e : Env) (B M : Mem) (b : Nat) (v : Value) (M' : Mem) (b' : Nat) : Prop :=
  (wantA ops e o = some false ∧ v = undef ∧ M' = M ∧ b' = (match kindOf P o with | .alloc => b + 1 | _ => b)) ∨ (wantA ops e o = some true ∧ ActsE P o (AY.aev e) B M b v M' b')

include hcall hext in
theorem one_some {ops : Array Oper} {k K : Nat} {ds : List (Option Nat)} {o : Oper} {kk : KT} {b : Nat} {st : List Value} {t : Ev} {M : Mem} {r : Value × Mem} {e : Env} (hl : Loc ds st e) (hu : Under K e t)
    (h : (zOne P ext ops k K ds o).run c kk b st t M = some r) : dstLt k o.dst = true ∧ ∃ v M' b', Steps1 P ops k o e M M b v M' b' ∧ kk b' (v :: st) ((zDst K o.dst).run t v) M' = some r := by
  simp only [← zPut_dst]
  have hs := evS_sub hl hu
  unfold zOne at h
  cases hd : dstLt k o.dst with
  | false => simp only [hd, cond_false] at h; cases h
  | true =>
    refine ⟨rfl, ?_⟩
    simp only [hd, cond_true] at h
    split at h
    · rename_i hg
      obtain ⟨v, M', b', h1, h2⟩ := open_done h
      exact ⟨v, M', b', .inr ⟨by simp [wantA, hg], h1.sub hcall hext hs⟩, h2⟩
    · rename_i g hg
      have h : wantK none ((zOpen P ext ds o (zDst K o.dst)).run c kk b st t M) ((zSkip (isAl P o) (zDst K o.dst)).run c kk b st t M) (wantS ops (evS ds st t) o) = some r := h
      rcases orec_some h with ⟨_, h⟩ | ⟨w, hw, h⟩
      · cases h
      · rcases brec_some h with ⟨rfl, h⟩ | ⟨rfl, h⟩
        · unfold zSkip at h
          dsimp only at h
          rcases brec_some h with ⟨ha, h⟩ | ⟨ha, h⟩
          · refine ⟨undef, M, b, .inl ⟨want_sub hs hw, rfl, rfl, ?_⟩, h⟩
            unfold isAl at ha
            rw [kindZ_eq] at ha
            split at ha
            · cases ha
            · rename_i hna; split
              · rename_i hk; exact absurd hk hna
              · rfl
          · refine ⟨undef, M, b + 1, .inl ⟨want_sub hs hw, rfl, rfl, ?_⟩, h⟩
            unfold isAl at ha
            rw [kindZ_eq] at ha
            split at ha
            · rename_i hk; rw [hk]
            · cases ha
        · obtain ⟨v, M', b', h1, h2⟩ := open_done h
          exact ⟨v, M', b', .inr ⟨want_sub hs hw, h1.sub hcall hext hs⟩, h2⟩

include hcall hext in
theorem list_some {ops : Array Oper} {k K n0 : Nat} {kk : KT} {x : Value × Mem} : ∀ (l : List Oper) (ds : List (Option Nat)) (r : Nat) (st : List Value) (t : Ev) (M : Mem) (e : Env), Loc ds st e → Under K e t →
    (zList P ext ops k K l ds).run c kk (n0 + r) st t M = some x → wpS P ops k n0 l r e M fun e' M' => ∃ b' st' t', Under K e' t' ∧ kk b' st' t' M' = some x := by
  intro l
  induction l with
  | nil => intro ds r st t M e hl hu h; exact ⟨_, _, _, hu, h⟩
  | cons o l ih =>
    intro ds r st t M e hl hu h
    have h : (zOne P ext ops k K ds o).run c ((zList P ext ops k K l (o.dst :: ds)).run c kk) (n0 + r) st t M = some x := h
    obtain ⟨hd, v, M', b', hst, h⟩ := one_some hcall hext hl hu h
    have go := fun r' (hb : b' = n0 + r') => ih (o.dst :: ds) r' (v :: st) _ M' _ (hl.put o.dst v) (zDst_put (d := o.dst) (v := v) hu) (by rw [← hb]; exact h)
    simp only [wpS, hd, cond_true]
    rcases hst with ⟨hw, rfl, rfl, hb⟩ | ⟨hw, hst⟩
    · simp only [hw]
      cases hk : kindOf P o <;> simp only [hk] at hb ⊢ <;> first | exact go r hb | exact go (r + 1) (by omega)
    · simp only [hw]
      unfold ActsE at hst
      cases hk : kindOf P o <;> simp only [hk] at hst ⊢
      · obtain ⟨h1, rfl, hb⟩ := hst; simp only [h1]; exact go r hb
      · obtain ⟨h1, rfl, hb⟩ := hst; simp only [h1]; exact go r hb
      · obtain ⟨bl, mk, h1, rfl, rfl, hb⟩ := hst; simp only [h1]; exact go (r + 1) (by omega)
      · obtain ⟨h1, hb⟩ := hst; simp only [h1]; exact go r hb
      · obtain ⟨hb, h1⟩ := hst
        rcases h1 with ⟨f, args, h1, h2⟩ | ⟨h1, h2, h3⟩
        · simp only [h1]; exact ⟨v, M', h2, go r hb⟩
        · simp only [h1]; exact ⟨v, M', h2, h3, go r hb⟩

/-! ### drawn orders -/
def PutOk (s : S) : Prop := ∀ (kk : KT) (b : Nat) (st : List Value) (t : Ev) (M : Mem) (v : Value), zPut s kk b st t M v = kk b (v :: st) (s.run t v) M
theorem dst_putOk (K : Nat) (d : Option Nat) : PutOk (zDst K d) := fun kk b st t M v => zPut_dst
theorem keep_run {f : C} {kk : KD} {b : Nat} {st : List Value} {t : Ev} {M B : Mem} : (dKeep f).run c kk b st t M B = f.run c (fun b st t M => kk b st t M B) b st t M := rfl
theorem eff_run {f : C} {kk : KD} {b : Nat} {st : List Value} {t : Ev} {M B : Mem} : (dEff f).run c kk b st t M B = f.run c (fun b st t M => kk b st t M M) b st t M := rfl
/-- what stands for memory behind the operation -/
def newB (P : Program) (o : Oper) (B M' : Mem) : Mem := match kindOf P o with
  | .eff => M'
  | .call => M'
  | _ => B
include hcall hext in
theorem dOpen_some {K : Nat} {ds : List (Option Nat)} {o : Oper} {kk : KD} {b : Nat} {st : List Value} {t : Ev} {M B : Mem} {r : Value × Mem} {e : Env} (hl : Loc ds st e) (hu : Under K e t) (s : S) (hp : PutOk s)
    (h : (dOpen P ext ds o s).run c kk b st t M B = some r) : ∃ v M' b', ActsE P o (AY.aev e) B M b v M' b' ∧ kk b' (v :: st) (s.run t v) M' (newB P o B M') = some r := by
  have hs := evS_sub hl hu
  unfold dOpen at h
  rw [kindZ_eq] at h
  unfold newB
  cases hk : kindOf P o with
  | read =>
    simp only [hk] at h ⊢
    have key : ∃ v, readV P (evS ds st t) B.get o = some v ∧ kk b (v :: st) (s.run t v) M B = some r := by
      unfold dReads at h
      split at h
      · rename_i ty x ho
        obtain ⟨u, h1, h⟩ := zOp_some (ds := ds) (x := x) (st := st) (t := t) h
        obtain ⟨v, h2, h⟩ := zLoad_some (M := B) h
        exact ⟨v, by simp [readV, ho, h1, h2], (hp _ _ _ _ _ _).symm.trans h⟩
      · obtain ⟨v, h1, h2⟩ := oK_none (show oK none (dPut s kk b st t M B) (readV P (evS ds st t) B.get o) = some r from h)
        exact ⟨v, h1, (hp _ _ _ _ _ _).symm.trans h2⟩
    obtain ⟨v, h1, h2⟩ := key
    exact ⟨v, M, b, by simp only [ActsE, hk]; exact ⟨readV_sub hs h1, trivial, trivial⟩, h2⟩
  | pure =>
    simp only [hk] at h ⊢
    rw [keep_run] at h
    obtain ⟨v, M', b', h1, h2⟩ := open_done h
    refine ⟨v, M', b', ?_, (hp _ _ _ _ _ _).symm.trans h2⟩
    have := h1.sub hcall hext hs
    simp only [ActsE, hk] at this ⊢; exact this
  | alloc =>
    simp only [hk] at h ⊢
    rw [keep_run] at h
    obtain ⟨v, M', b', h1, h2⟩ := open_done h
    refine ⟨v, M', b', ?_, (hp _ _ _ _ _ _).symm.trans h2⟩
    have := h1.sub hcall hext hs
    simp only [ActsE, hk] at this ⊢; exact this
  | eff =>
    simp only [hk] at h ⊢
    rw [eff_run] at h
    obtain ⟨v, M', b', h1, h2⟩ := open_done h
    refine ⟨v, M', b', ?_, (hp _ _ _ _ _ _).symm.trans h2⟩
    have := h1.sub hcall hext hs
    simp only [ActsE, hk] at this ⊢; exact this
  | call =>
    simp only [hk] at h ⊢
    rw [eff_run] at h
    obtain ⟨v, M', b', h1, h2⟩ := open_done h
    refine ⟨v, M', b', ?_, (hp _ _ _ _ _ _).symm.trans h2⟩
    have := h1.sub hcall hext hs
    simp only [ActsE, hk] at this ⊢; exact this
theorem dSkip_some {o : Oper} {s : S} (hp : PutOk s) {kk : KD} {b : Nat} {st : List Value} {t : Ev} {M B : Mem} {r : Value × Mem} (h : (dSkip P o s).run c kk b st t M B = some r) :
    kk (match kindOf P o with | .alloc => b + 1 | _ => b) (undef :: st) (s.run t undef) M (newB P o B M) = some r := by
  unfold dSkip at h
  rw [kindZ_eq] at h
  unfold newB
  cases hk : kindOf P o <;> simp only [hk] at h ⊢ <;> exact (hp _ _ _ _ _ _).symm.trans h
include hcall hext in
theorem dOne_some {ops : Array Oper} {k K : Nat} {ds : List (Option Nat)} {o : Oper} {kk : KD} {b : Nat} {st : List Value} {t : Ev} {M B : Mem} {r : Value × Mem} {e : Env} (hl : Loc ds st e) (hu : Under K e t)
    (h : (dOne P ext ops K ds o).run c kk b st t M B = some r) : ∃ v M' b', Steps1 P ops k o e B M b v M' b' ∧ kk b' (v :: st) ((zDst K o.dst).run t v) M' (newB P o B M') = some r := by
  have hs := evS_sub hl hu
  unfold dOne at h
  split at h
  · rename_i hg
    obtain ⟨v, M', b', h1, h2⟩ := dOpen_some hcall hext hl hu _ (dst_putOk K o.dst) h
    exact ⟨v, M', b', .inr ⟨by simp [wantA, hg], h1⟩, h2⟩
  · rename_i g hg
    have h : wantK none ((dOpen P ext ds o (zDst K o.dst)).run c kk b st t M B) ((dSkip P o (zDst K o.dst)).run c kk b st t M B) (wantS ops (evS ds st t) o) = some r := h
    rcases orec_some h with ⟨_, h⟩ | ⟨w, hw, h⟩
    · cases h
    · rcases brec_some h with ⟨rfl, h⟩ | ⟨rfl, h⟩
      · have h := dSkip_some (dst_putOk K o.dst) h
        exact ⟨undef, M, _, .inl ⟨want_sub hs hw, rfl, rfl, rfl⟩, h⟩
      · obtain ⟨v, M', b', h1, h2⟩ := dOpen_some hcall hext hl hu _ (dst_putOk K o.dst) h
        exact ⟨v, M', b', .inr ⟨want_sub hs hw, h1⟩, h2⟩

theorem withA_nil (al : List (Nat × Nat × Blk)) (i : Nat) (m : Mm) : withA [] al i m = m := by
  induction al with
  | nil => rfl
  | cons p al ih => obtain ⟨j, id, b⟩ := p; simp only [withA, inP, List.any_nil, cond_false]; exact ih
theorem allLog_nil (i : Nat) (f : Mem → Prop) : ∀ l, allLog [] i f l
  | [] => trivial
  | (j, B) :: l => ⟨fun h => by simp [inP] at h, allLog_nil i f l⟩
theorem allRl_nil (j : Nat) (m : Mm) : ∀ l, allRl P [] j m l
  | [] => trivial
  | (i, o, e, v) :: l => ⟨fun h => by simp [inP] at h, allRl_nil j m l⟩

include hcall hext in
theorem dlist_some {ops : Array Oper} {k K n0 : Nat} {kk : KD} {x : Value × Mem} : ∀ (l : List Nat) (ds : List (Option Nat)) (r : Nat) (st : List Value) (t : Ev) (M B : Mem) (e : Env) (al : List (Nat × Nat × Blk)) (log : List (Nat × Mem)) (rl : List (Nat × Oper × Env × Value)), Loc ds st e → Under K e t →
    (dList P ext ops K l ds).run c kk (n0 + r) st t M B = some x → wpD P ops k n0 [] [] (l.map fun i => (i, opAt ops i)) r e M B al log rl fun e' M' => ∃ b' st' t' B', Under K e' t' ∧ kk b' st' t' M' B' = some x := by
  intro l
  induction l with
  | nil => intro ds r st t M B e al log rl hl hu h; exact ⟨_, _, _, _, hu, h⟩
  | cons i l ih =>
    intro ds r st t M B e al log rl hl hu h
    have h : (dOne P ext ops K ds (opZ ops i)).run c ((dList P ext ops K l ((opZ ops i).dst :: ds)).run c kk) (n0 + r) st t M B = some x := h
    rw [opZ_eq] at h
    obtain ⟨v, M', b', hst, h⟩ := dOne_some hcall hext (k := k) hl hu h
    simp only [List.map_cons, wpD]
    generalize opAt ops i = o at h hst ⊢
    have go := fun r' al' log' rl' (hb : b' = n0 + r') => ih (o.dst :: ds) r' (v :: st) _ M' (newB P o B M') _ al' log' rl' (hl.put o.dst v) (zDst_put (d := o.dst) (v := v) hu) (by rw [← hb]; exact h)
    unfold newB at go
    rcases hst with ⟨hw, rfl, rfl, hb⟩ | ⟨hw, hst⟩
    · simp only [hw]
      cases hk : kindOf P o <;> simp only [hk] at hb go ⊢ <;> first | exact go r _ _ _ hb | exact go (r + 1) _ _ _ (by omega) | exact ⟨allRl_nil _ _ _, go r _ _ _ hb⟩
    · simp only [hw]
      unfold ActsE at hst
      cases hk : kindOf P o <;> simp only [hk] at hst go ⊢
      · obtain ⟨h1, rfl, hb⟩ := hst; simp only [h1]; exact go r _ _ _ hb
      · obtain ⟨h1, rfl, hb⟩ := hst; simp only [withA_nil, h1]; exact ⟨allLog_nil _ _ _, go r _ _ _ hb⟩
      · obtain ⟨bl, mk, h1, rfl, rfl, hb⟩ := hst; simp only [h1]; exact go (r + 1) _ _ _ (by omega)
      · obtain ⟨h1, hb⟩ := hst; simp only [h1]; exact ⟨allRl_nil _ _ _, go r _ _ _ hb⟩
      · obtain ⟨hb, h1⟩ := hst
        rcases h1 with ⟨f, args, h1, h2⟩ | ⟨h1, h2, h3⟩
        · simp only [h1]; exact ⟨v, M', h2, allRl_nil _ _ _, go r _ _ _ hb⟩
        · simp only [h1]; exact ⟨v, M', h2, h3, allRl_nil _ _ _, go r _ _ _ hb⟩
end
end Go.Proofs.YtopblipficpilaaGreatDoor.AY

/- The layer: the quick machine: code, bodies, the whole: the proof. -/
namespace Go.Proofs.YtopblipficpilaaGreatDoor.AY
open Go
set_option linter.unusedVariables false
set_option linter.unusedSimpArgs false

/-- what a machine's calls come to -/
structure COk (P : Program) (c : CC) : Prop where
  call : ∀ f args M v M', c.call f args M = some (v, M') → ACall P f args.toArray M v M'
  seq : ∀ f lb M M', c.seq f lb M = some M' → ASeq P f lb M M'
  dfc : ∀ f cap M M', c.dfc f cap M = some M' → ADef P f cap M M'
def ExtOk (P : Program) (ext : ExtF) : Prop := ∀ ev M o v, ext ev M o = some v → Known ev o ∧ EffOk P o ev M v M
/-- code that was compiled does what the code does -/
def ZOk (P : Program) (k K : Nat) (code : Code) (z : ZX) : Prop := ∀ c kx t M d x e0, COk P c → Under K e0 t → z.run c kx t M d = some x →
  ∃ e t' M' d' e1, Under K e1 t' ∧ ARun P none k code ⟨e0, M, d⟩ e ⟨e1, M', d'⟩ ∧ kx e t' M' d' = some x
section
variable {P : Program} {tab : List Row} {ext : ExtF} (hmo : P.follows .mixedOrders = true) (hext : ExtOk P ext) {f k K : Nat}

theorem xNorm_out {y : Ev → Mem → List Dfr → Ans} {kx : KX} {e : Exit} {t : Ev} {M : Mem} {d : List Dfr} (h : e ≠ .normal) : xNorm y kx e t M d = kx e t M d := by
  cases e <;> first | rfl | exact absurd rfl h
theorem seq_ok {a b : Code} {za zb : ZX} (ha : ZOk P k K a za) (hb : ZOk P k K b zb) : ZOk P k K (.seq a b) (xSeq za zb) := by
  intro c kx t M d x e0 hc hu h
  have h : za.run c (xNorm (zb.run c kx) kx) t M d = some x := h
  obtain ⟨e, t1, M1, d1, e1, hu1, r1, h1⟩ := ha _ _ _ _ _ _ _ hc hu h
  by_cases he : e = .normal
  · subst he
    obtain ⟨e', t2, M2, d2, e2, hu2, r2, h2⟩ := hb _ _ _ _ _ _ _ hc hu1 (show zb.run c kx t1 M1 d1 = some x from h1)
    exact ⟨e', t2, M2, d2, e2, hu2, r1.seq r2, h2⟩
  · rw [xNorm_out he] at h1
    exact ⟨e, t1, M1, d1, e1, hu1, r1.seq_out he, h1⟩
theorem cond_ok {x : Operand} {a b : Code} {za zb : ZX} (ha : ZOk P k K a za) (hb : ZOk P k K b zb) : ZOk P k K (.cond x a b) (xCond (zOp [] x) za zb) := by
  intro c kx t M d r e0 hc hu h
  obtain ⟨v, h1, h⟩ := zOp_some (ds := []) (x := x) (st := []) (t := t) h
  have h1 := evS_sub (Loc.nil e0) hu _ _ h1
  rcases vBool_some h with h | ⟨q, rfl, h'⟩
  · cases h
  · cases q with
    | true =>
      obtain ⟨e, t1, M1, d1, e1, hu1, r1, h2⟩ := ha _ _ _ _ _ _ _ hc hu (show za.run c kx t M d = some r from h')
      exact ⟨e, t1, M1, d1, e1, hu1, ARun.cond (t := true) h1 r1, h2⟩
    | false =>
      obtain ⟨e, t1, M1, d1, e1, hu1, r1, h2⟩ := hb _ _ _ _ _ _ _ hc hu (show zb.run c kx t M d = some r from h')
      exact ⟨e, t1, M1, d1, e1, hu1, ARun.cond (t := false) h1 r1, h2⟩
theorem block_ok {id : Nat} {b : Code} {zb : ZX} (hb : ZOk P k K b zb) : ZOk P k K (.block id b) (xBlock id zb) := by
  intro c kx t M d x e0 hc hu h
  obtain ⟨e, t1, M1, d1, e1, hu1, r1, h1⟩ := hb _ _ _ _ _ _ _ hc hu (show zb.run c (xOut id kx) t M d = some x from h)
  cases e with
  | exit j =>
    have h1 : (Bool.rec (motive := fun _ => Ev → Mem → List Dfr → Ans) (kx (.exit j)) (kx .normal) (Nat.beq j id) : Ev → Mem → List Dfr → Ans) t1 M1 d1 = some x := h1
    refine ⟨if j = id then .normal else .exit j, t1, M1, d1, e1, hu1, ARun.block r1 (by simp), ?_⟩
    cases hb : Nat.beq j id with
    | false =>
      rw [hb] at h1
      have : j ≠ id := by rintro rfl; rw [beq_iff] at hb; simp at hb
      rw [if_neg this]; exact h1
    | true => rw [hb] at h1; rw [if_pos (Nat.eq_of_beq_eq_true hb)]; exact h1
  | normal => exact ⟨.normal, t1, M1, d1, e1, hu1, ARun.block r1 rfl, h1⟩
  | goto l => exact ⟨.goto l, t1, M1, d1, e1, hu1, ARun.block r1 rfl, h1⟩
  | ret => exact ⟨.ret, t1, M1, d1, e1, hu1, ARun.block r1 rfl, h1⟩
  | panic p => exact ⟨.panic p, t1, M1, d1, e1, hu1, ARun.block r1 rfl, h1⟩
  | outgrown => exact ⟨.outgrown, t1, M1, d1, e1, hu1, ARun.block r1 rfl, h1⟩
theorem loop_ok {b : Code} {zb : ZX} (n : Nat) (hb : ZOk P k K b zb) : ZOk P k K (.loop b) (xLoop n zb) := by
  intro c kx t M d x e0 hc hu h
  have key : ∀ m t M d e0, Under K e0 t → (Nat.rec (motive := fun _ => Ev → Mem → List Dfr → Ans) (fun _ _ _ => none) (fun _ ih t M d => ZX.rec (motive := fun _ => Ans) (fun f => f c (xNorm ih kx) t M d) zb) m) t M d = some x →
      ∃ e t' M' d' e1 r, Under K e1 t' ∧ Rounds P none k b r ⟨e0, M, d⟩ e ⟨e1, M', d'⟩ ∧ kx e t' M' d' = some x := by
    intro m
    induction m with
    | zero => intro t M d e0 _ h; cases h
    | succ m ih =>
      intro t M d e0 hu h
      obtain ⟨e, t1, M1, d1, e1, hu1, r1, h1⟩ := hb _ _ _ _ _ _ _ hc hu (show zb.run c (xNorm (Nat.rec (motive := fun _ => Ev → Mem → List Dfr → Ans) (fun _ _ _ => none) (fun _ ih t M d => ZX.rec (motive := fun _ => Ans) (fun f => f c (xNorm ih kx) t M d) zb) m) kx) t M d = some x from h)
      by_cases he : e = .normal
      · subst he
        obtain ⟨e', t2, M2, d2, e2, r, hu2, r2, h2⟩ := ih _ _ _ _ hu1 h1
        exact ⟨e', t2, M2, d2, e2, _, hu2, .more r1 r2, h2⟩
      · rw [xNorm_out he] at h1
        exact ⟨e, t1, M1, d1, e1, 1, hu1, .out r1 he, h1⟩
  obtain ⟨e, t1, M1, d1, e1, r, hu1, r1, h1⟩ := key n t M d e0 hu h
  exact ⟨e, t1, M1, d1, e1, hu1, ARun.loop r1, h1⟩
theorem scope_ok {b : Code} {z : Code → ZX} (n : Nat) (hz : ∀ d, codeOk P tab f k d = true → ZOk P k K d (z d)) (hb : codeOk P tab f k b = true) : ZOk P k K (.scope b) (xScope n b z) := by
  intro c kx t M d x e0 hc hu h
  have key : ∀ m cur t M d e0, codeOk P tab f k cur = true → Under K e0 t → (Nat.rec (motive := fun _ => Code → Ev → Mem → List Dfr → Ans) (fun _ _ _ _ => none)
  (fun _ ih cur t M d => ZX.run (z cur) c (fun e t M d => match e with
    | .goto l => match findLabel b l with
      | some rest => ih rest t M d
      | none => none
    | e => kx e t M d) t M d) m) cur t M d = some x → ∃ e t' M' d' e1, Under K e1 t' ∧ ScRounds P none k b cur ⟨e0, M, d⟩ e ⟨e1, M', d'⟩ ∧ kx e t' M' d' = some x := by
    intro m
    induction m with
    | zero => intro cur t M d e0 _ _ h; cases h
    | succ m ih =>
      intro cur t M d e0 hcur hu h
      obtain ⟨e, t1, M1, d1, e1, hu1, r1, h1⟩ := hz cur hcur _ _ _ _ _ _ _ hc hu h
      cases e with
      | goto l =>
        dsimp only at h1
        split at h1
        · rename_i rest hf
          obtain ⟨e', t2, M2, d2, e2, hu2, r2, h2⟩ := ih rest _ _ _ _ (codeOk_label hf hb) hu1 h1
          exact ⟨e', t2, M2, d2, e2, hu2, .more r1 hf r2, h2⟩
        · cases h1
      | normal => exact ⟨_, t1, M1, d1, e1, hu1, .out r1 (by rintro l ⟨⟩), h1⟩
      | exit j => exact ⟨_, t1, M1, d1, e1, hu1, .out r1 (by rintro l ⟨⟩), h1⟩
      | ret => exact ⟨_, t1, M1, d1, e1, hu1, .out r1 (by rintro l ⟨⟩), h1⟩
      | panic p => exact ⟨_, t1, M1, d1, e1, hu1, .out r1 (by rintro l ⟨⟩), h1⟩
      | outgrown => exact ⟨_, t1, M1, d1, e1, hu1, .out r1 (by rintro l ⟨⟩), h1⟩
  obtain ⟨e, t1, M1, d1, e1, hu1, r1, h1⟩ := key n b t M d e0 hb hu h
  exact ⟨e, t1, M1, d1, e1, hu1, ARun.scope r1, h1⟩
theorem range_ok {g : Operand} {ps : Array Tmp} {as bd : Code} : ZOk P k K (.rangeFunc g ps as bd) (xRange P g) := by
  intro c kx t M d x e0 hc hu h
  unfold xRange at h
  dsimp only at h
  split at h
  · rename_i gf xs lb hg
    cases hxs : (xs.isEmpty && callable P gf) with
    | false => simp [hxs] at h
    | true =>
      simp only [hxs, cond_true] at h
      rw [Bool.and_eq_true] at hxs
      have hxe : xs = #[] := by simpa using hxs.1
      subst hxe
      split at h
      · rename_i M' hM
        exact ⟨.normal, t, M', _, e0, hu, ARun.rangeFunc0 (s := ⟨e0, M, d⟩) (evS_sub (Loc.nil e0) hu _ _ hg) hxs.2 (hc.seq _ _ _ _ hM), h⟩
      · cases h
  · cases h
include hext in
theorem reg_ok {id : Nat} {ops : Array Oper} : ZOk P k K (.region id ops false) (xReg (nAl P ops.toList) (zList P ext ops k K ops.toList [])) := by
  intro c kx t M d x e0 hc hu h
  have h : (zList P ext ops k K ops.toList []).run c (fun _ _ t M => kx .normal t M d) (M.next + 0) [] t (M.bump (nAl P ops.toList)) = some x := h
  have hw := list_some hc.call hext ops.toList [] 0 [] t _ e0 (Loc.nil e0) hu h
  obtain ⟨x1, s1, q1, q2⟩ := AWP.region (r := none) (k := k) (id := id) (s := ⟨e0, M, d⟩) (Q := fun y s' => y = .normal ∧ s'.dfr = d ∧ ∃ t', Under K s'.env t' ∧ kx .normal t' s'.mem d = some x) (hw.mono' fun e M' ⟨_, _, t', h1, h2⟩ => ⟨rfl, rfl, t', h1, h2⟩)
  obtain ⟨rfl, hd, t', h1, h2⟩ := q2
  refine ⟨.normal, t', s1.mem, d, s1.env, h1, ?_, h2⟩
  rw [show (⟨s1.env, s1.mem, d⟩ : St) = s1 by rw [← hd]]
  exact q1
include hext in
theorem defer_ok {id : Nat} {ops : Array Oper} {l : List Oper} {o : Oper} {y : Operand} (hdo : deferOf ops = some (l, o, y)) (hod : dstLt k o.dst = true) : ZOk P k K (.region id ops false) (xDefer K o y (xReg (nAl P l) (zList P ext ops k K l []))) := by
  intro c kx t M d x e0 hc hu h
  have h : (zList P ext ops k K l []).run c (fun _ _ t M => match evS [] [] t y with
    | some (.func (.func g) xs cap) => bif xs.isEmpty then kx .normal (S.run (zDst K o.dst) t undef) M (.fn g cap :: d) else none
    | _ => none) (M.next + 0) [] t (M.bump (nAl P l)) = some x := h
  have hw := list_some hc.call hext l [] 0 [] t _ e0 (Loc.nil e0) hu h
  obtain ⟨e1, M1, ⟨_, _, t1, hu1, h1⟩, hr⟩ := ARun.region_defer (id := id) (s := ⟨e0, M, d⟩) hdo hod hw
  split at h1
  · rename_i g xs cap hy
    cases hxs : xs.isEmpty with
    | false => simp [hxs] at h1
    | true =>
      simp only [hxs, cond_true] at h1
      have hxe : xs = #[] := by simpa using hxs
      subst hxe
      exact ⟨.normal, _, M1, _, _, zDst_put (d := o.dst) (v := undef) hu1, hr g cap (evS_sub (Loc.nil e1) hu1 _ _ hy), h1⟩
  · cases h1
include hmo hext in
theorem regD_ok {id : Nat} {ops : Array Oper} {ord msk : List Nat} (hreg : okReg P k ops ord msk [] [] = true) : ZOk P k K (.region id ops true) (xRegD (nAl P (ord.map fun i => opAt ops i)) (dList P ext ops K ord [])) := by
  intro c kx t M d x e0 hc hu h
  have h : (dList P ext ops K ord []).run c (fun _ _ t M _ => kx .normal t M d) (M.next + 0) [] t (M.bump (nAl P (ord.map fun i => opAt ops i))) (M.bump (nAl P (ord.map fun i => opAt ops i))) = some x := h
  have hw := dlist_some hc.call hext (k := k) ord [] 0 [] t _ _ e0 [] [] [] (Loc.nil e0) hu h
  obtain ⟨x1, s1, q1, q2⟩ := AWP.regionD hmo (r := none) (k := k) (id := id) ord msk [] [] (s := ⟨e0, M, d⟩) (Q := fun y s' => y = .normal ∧ s'.dfr = d ∧ ∃ t', Under K s'.env t' ∧ kx .normal t' s'.mem d = some x) hreg (hw.mono' fun e M' ⟨_, _, t', _, h1, h2⟩ => ⟨rfl, rfl, t', h1, h2⟩)
  obtain ⟨rfl, hd, t', h1, h2⟩ := q2
  refine ⟨.normal, t', s1.mem, d, s1.env, h1, ?_, h2⟩
  rw [show (⟨s1.env, s1.mem, d⟩ : St) = s1 by rw [← hd]]
  exact q1

/-! ### drawn, told slowly -/
inductive HLike (P : Program) : List (Nat × (Mem → Bool)) → List (Nat × Oper × Env × Value) → Prop
  | nil : HLike P [] []
  | cons {i : Nat} {fn : Mem → Bool} {o : Oper} {e : Env} {v : Value} {l : List (Nat × (Mem → Bool))} {m : List (Nat × Oper × Env × Value)} (h : ∀ M, fn M = true → readV P (AY.aev e) M.get o = some v) (h' : HLike P l m) : HLike P ((i, fn) :: l) ((i, o, e, v) :: m)
theorem hRl_ok {U : List (Nat × Nat)} {j : Nat} {M : Mem} {l : List (Nat × (Mem → Bool))} {m : List (Nat × Oper × Env × Value)} (hl : HLike P l m) (h : hRl U j M l = true) : allRl P U j M.get m := by
  induction hl with
  | nil => trivial
  | cons hf _ ih =>
    simp only [hRl, Bool.and_eq_true, Bool.or_eq_true, Bool.not_eq_true'] at h
    refine ⟨fun hp => ?_, ih h.2⟩
    rcases h.1 with h1 | h1
    · rw [hp] at h1; cases h1
    · exact hf _ h1
include hext in
theorem hRun_ok {ops : Array Oper} {n0 : Nat} {A U : List (Nat × Nat)} {c : CC} (hc : COk P c) {kk : Ev → Mem → Ans} {x : Value × Mem} : ∀ (l : List Nat) (ds : List (Option Nat)) (r : Nat) (st : List Value) (t : Ev) (M B : Mem) (e : Env) (al : List (Nat × Nat × Blk)) (log : List (Nat × Mem)) (rl : List (Nat × (Mem → Bool))) (rl' : List (Nat × Oper × Env × Value)), Loc ds st e → Under K e t → HLike P rl rl' →
    hRun P ext ops K A U c kk l ds (n0 + r) st t M B al log rl = some x → wpD P ops k n0 A U (l.map fun i => (i, opAt ops i)) r e M B al log rl' fun e' M' => ∃ t', Under K e' t' ∧ kk t' M' = some x := by
  intro l
  induction l with
  | nil => intro ds r st t M B e al log rl rl' hl hu hr h; exact ⟨_, hu, h⟩
  | cons i l ih =>
    intro ds r st t M B e al log rl rl' hl hu hr h
    simp only [hRun, kindZ_eq] at h
    simp only [List.map_cons, wpD]
    generalize opAt ops i = o at h ⊢
    have hs := evS_sub hl hu
    have go := fun (v : Value) => (⟨hl.put o.dst v, zDst_put (d := o.dst) (v := v) hu⟩ : Loc (o.dst :: ds) (v :: st) (e.put o.dst v) ∧ Under K (e.put o.dst v) ((zDst K o.dst).run t v))
    cases hw : wantS ops (evS ds st t) o with
    | none => simp [hw] at h
    | some b =>
      rw [want_sub hs hw]
      cases b with
      | false =>
        simp only [hw] at h ⊢
        cases hk : kindOf P o with
        | alloc => simp only [hk] at h ⊢; exact ih _ _ _ _ _ _ _ _ _ _ _ (go _).1 (go _).2 hr h
        | pure => simp only [hk] at h ⊢; exact ih _ _ _ _ _ _ _ _ _ _ _ (go _).1 (go _).2 hr h
        | read => simp only [hk] at h ⊢; exact ih _ _ _ _ _ _ _ _ _ _ _ (go _).1 (go _).2 hr h
        | eff =>
          simp only [hk] at h ⊢
          cases hx : hRl U i M rl with
          | false => simp [hx] at h
          | true => simp only [hx, cond_true] at h; exact ⟨hRl_ok hr hx, ih _ _ _ _ _ _ _ _ _ _ _ (go _).1 (go _).2 hr h⟩
        | call =>
          simp only [hk] at h ⊢
          cases hx : hRl U i M rl with
          | false => simp [hx] at h
          | true => simp only [hx, cond_true] at h; exact ⟨hRl_ok hr hx, ih _ _ _ _ _ _ _ _ _ _ _ (go _).1 (go _).2 hr h⟩
      | true =>
        simp only [hw] at h ⊢
        cases hk : kindOf P o with
        | pure =>
          simp only [hk] at h ⊢
          split at h
          · rename_i v hv; simp only [pureV_sub hs hv]; exact ih _ _ _ _ _ _ _ _ _ _ _ (go _).1 (go _).2 hr h
          · cases h
        | read =>
          simp only [hk] at h ⊢
          split at h
          · rename_i v hv
            simp only [readV_sub hs hv]
            cases hx : xLog U i (fun B' => isV (readV P (evS ds st t) (withA A al i B'.get) o) v) log with
            | false => simp [hx] at h
            | true =>
              simp only [hx, cond_true] at h
              exact ⟨xLog_ok (fun B hB => readV_sub hs (isV_eq hB)) hx, ih _ _ _ _ _ _ _ _ _ _ _ (go _).1 (go _).2 (.cons (fun M hM => readV_sub hs (isV_eq hM)) hr) h⟩
          · cases h
        | alloc =>
          simp only [hk] at h ⊢
          split at h
          · rename_i bl mk hv
            simp only [allocA_sub hs hv]
            rw [mPut_eq] at h
            exact ih _ (r + 1) _ _ _ _ _ _ _ _ _ (go _).1 (go _).2 hr h
          · cases h
        | eff =>
          simp only [hk] at h ⊢
          split at h
          · rename_i v M₁ hv
            simp only [effV_sub hs hv]
            cases hx : hRl U i M₁ rl with
            | false => simp [hx] at h
            | true => simp only [hx, cond_true] at h; exact ⟨hRl_ok hr hx, ih _ _ _ _ _ _ _ _ _ _ _ (go _).1 (go _).2 hr h⟩
          · cases h
        | call =>
          simp only [hk] at h ⊢
          split at h
          · rename_i f args hv
            simp only [callOf_sub hs hv]
            split at h
            · rename_i v M₁ hcl
              cases hx : hRl U i M₁ rl with
              | false => simp [hx] at h
              | true => simp only [hx, cond_true] at h; exact ⟨v, M₁, hc.call _ _ _ _ _ hcl, hRl_ok hr hx, ih _ _ _ _ _ _ _ _ _ _ _ (go _).1 (go _).2 hr h⟩
            · cases h
          · rename_i hv
            split at h
            · rename_i v hxv
              obtain ⟨h3, h4⟩ := hext _ _ _ _ hxv
              simp only [callOf_none hs h3 hv]
              cases hx : hRl U i M rl with
              | false => simp [hx] at h
              | true => simp only [hx, cond_true] at h; exact ⟨v, M, h3.sub hs, h4.sub hs h3, hRl_ok hr hx, ih _ _ _ _ _ _ _ _ _ _ _ (go _).1 (go _).2 hr h⟩
            · cases h
include hmo hext in
theorem draw_ok {id : Nat} {ops : Array Oper} {r : Row} (hreg : okReg P k ops r.ord r.msk r.A r.U = true) : ZOk P k K (.region id ops true) (xDraw P ext K ops r) := by
  intro c kx t M d x e0 hc hu h
  have h : hRun P ext ops K r.A r.U c (fun t M => kx .normal t M d) r.ord [] (M.next + 0) [] t (M.bump (nAlZ P (r.ord.map fun i => opAt ops i))) (M.bump (nAlZ P (r.ord.map fun i => opAt ops i))) [] [] [] = some x := h
  simp only [nAlZ_eq] at h
  have hw := hRun_ok hext (k := k) hc r.ord [] 0 [] t _ _ e0 [] [] [] [] (Loc.nil e0) hu .nil h
  obtain ⟨x1, s1, q1, q2⟩ := AWP.regionD hmo (r := none) (k := k) (id := id) r.ord r.msk r.A r.U (s := ⟨e0, M, d⟩) (Q := fun y s' => y = .normal ∧ s'.dfr = d ∧ ∃ t', Under K s'.env t' ∧ kx .normal t' s'.mem d = some x) hreg (hw.mono' fun e M' ⟨t', h1, h2⟩ => ⟨rfl, rfl, t', h1, h2⟩)
  obtain ⟨rfl, hd, t', h1, h2⟩ := q2
  refine ⟨.normal, t', s1.mem, d, s1.env, h1, ?_, h2⟩
  rw [show (⟨s1.env, s1.mem, d⟩ : St) = s1 by rw [← hd]]
  exact q1
theorem no_ok {code : Code} : ZOk P k K code xNo := by intro c kx t M d x e0 hc hu h; cases h
include hmo hext in
theorem region_ok {id : Nat} {ops : Array Oper} {draw : Bool} (hco : codeOk P tab f k (.region id ops draw) = true) : ZOk P k K (.region id ops draw) (zRegion P tab ext f k K id ops draw) := by
  unfold zRegion
  simp only [nAlZ_eq, opZ_eq]
  simp only [codeOk] at hco
  cases draw with
  | true =>
    simp only [cond_true] at hco ⊢
    split
    · rename_i r hr
      simp only [hr] at hco
      cases he : (r.A.isEmpty && r.U.isEmpty) with
      | true =>
        simp only [cond_true]
        simp only [Bool.and_eq_true, List.isEmpty_iff] at he
        rw [he.1, he.2] at hco
        exact regD_ok hmo hext hco
      | false => simp only [cond_false]; exact draw_ok hmo hext hco
    · exact no_ok
  | false =>
    simp only [cond_false]
    split
    · exact reg_ok hext
    · rename_i l o y hdo
      cases hod : dstLt k o.dst with
      | false => simp only [cond_false]; exact no_ok
      | true => simp only [cond_true]; exact defer_ok hext hdo hod
include hmo hext in
theorem code_ok {n : Nat} : ∀ (lvl : Nat) (code : Code), codeOk P tab f k code = true → ZOk P k K code (zCode P tab ext n f k K lvl code) := by
  intro lvl
  induction lvl with
  | zero => intro code _; exact no_ok
  | succ lvl ihl =>
    intro code
    induction code with
    | skip => intro _ c kx t M d x e0 hc hu h; exact ⟨.normal, t, M, d, e0, hu, ARun.skip, h⟩
    | label l => intro _ c kx t M d x e0 hc hu h; exact ⟨.normal, t, M, d, e0, hu, ARun.label, h⟩
    | exit id => intro _ c kx t M d x e0 hc hu h; exact ⟨.exit id, t, M, d, e0, hu, ARun.exit, h⟩
    | ret => intro _ c kx t M d x e0 hc hu h; exact ⟨.ret, t, M, d, e0, hu, ARun.ret, h⟩
    | goto l => intro _ c kx t M d x e0 hc hu h; exact ⟨.goto l, t, M, d, e0, hu, ARun.goto, h⟩
    | refuse w => intro _; exact no_ok
    | seq a b iha ihb => intro hco; simp only [codeOk, Bool.and_eq_true] at hco; exact seq_ok (iha hco.1) (ihb hco.2)
    | cond x a b iha ihb => intro hco; simp only [codeOk, Bool.and_eq_true] at hco; exact cond_ok (iha hco.1) (ihb hco.2)
    | block id b ih => intro hco; exact block_ok (ih hco)
    | loop b ih => intro hco; exact loop_ok n (ih hco)
    | scope b ih => intro hco; exact scope_ok n (fun d hd => ihl d hd) hco
    | rangeFunc g ps as bd _ _ => intro _; exact range_ok
    | region id ops draw => intro hco; exact region_ok hmo hext hco
end
end Go.Proofs.YtopblipficpilaaGreatDoor.AY

/- The layer: the quick machine: bodies, and all of it. -/
namespace Go.Proofs.YtopblipficpilaaGreatDoor.AY
open Go
set_option linter.unusedVariables false
set_option linter.unusedSimpArgs false

theorem resE_of {P : Program} {K : Nat} {e : Env} {t : Ev} (hu : Under K e t) {M : Mem} {d : List Dfr} : ∀ {rs : List ResultVar} {vs : List Value}, resE P t M rs = some vs → resV P ⟨e, M, d⟩ rs = some vs := by
  intro rs
  induction rs with
  | nil => intro vs h; exact h
  | cons r l ih =>
    intro vs h
    cases r with
    | tmp s =>
      simp only [resE] at h
      simp only [resV]
      split at h
      · rename_i v us h1 h2; simp only [(hu s v h1).1, ih h2]; exact h
      · cases h
    | cell a ty =>
      simp only [resE] at h
      simp only [resV]
      split at h
      · rename_i x h1
        simp only [(hu a x h1).1]
        split at h
        · rename_i v us h2 h3; simp only [h2, ih h3]; exact h
        · cases h
      · cases h
theorem retE_of {P : Program} {K : Nat} {e : Env} {t : Ev} (hu : Under K e t) {M : Mem} {d : List Dfr} {rs : List ResultVar} {v : Value} (h : retE P rs t M = some v) : retV P rs ⟨e, M, d⟩ = some v := by
  unfold retE at h
  unfold retV
  cases hr : resE P t M rs with
  | none => rw [hr] at h; cases h
  | some vs => rw [hr] at h; rw [resE_of hu hr]; exact h

theorem leaveG_ok {P : Program} {c : CC} (hc : COk P c) {fn : Func} {K : Nat} {t : Ev} {M : Mem} {d : List Dfr} {v : Value} {M' : Mem} (h : leaveG P fn.results.toList c t M d = some (v, M')) {e1 : Env} (hu : Under K e1 t)
    {k n₀ : Nat} {ρ : Emb} {a : Act} {w : World} (hcu : Cur P k n₀ ρ ⟨e1, M, d⟩ a w) {R : Ending → World → Prop}
    (hR : ∀ v' ρ' w', VR P ρ' v v' → HR P ρ' M'.get w' → Free ρ' M'.next → (∀ ρ₀ M₀ w₀, HR P ρ₀ M₀.get w₀ → w₀.heap.size ≤ n₀ → Grow ρ₀ M₀ w₀ ρ M w → Grow ρ₀ M₀ w₀ ρ' M' w') → R (.returned v') w') :
    LeavesInM (Fw none) 0 P fn a.tmps R a.defers .returning w := by
  unfold leaveG at h
  split at h
  · cases hr : retE P fn.results.toList t M with
    | none => simp [hr] at h
    | some u =>
      simp only [hr, Option.map_some, Option.some.injEq, Prod.mk.injEq] at h
      obtain ⟨rfl, rfl⟩ := h
      exact leaves_none hcu rfl (retE_of hu hr) fun v' hv' => hR v' ρ w hv' hcu.hr hcu.free fun _ _ _ _ _ hg => hg
  · cases hr : retE P fn.results.toList t M with
    | none => simp [hr] at h
    | some u =>
      simp only [hr, Option.map_some, Option.some.injEq, Prod.mk.injEq] at h
      obtain ⟨rfl, rfl⟩ := h
      exact leaves_coll hcu rfl (retE_of hu hr) fun v' D hn haw hv' => hR v' ρ _ hv' (hcu.hr.put_away haw _) hcu.free fun _ _ _ _ hle hg => hg.put (Nat.le_trans hle hn) _
  · rename_i f cap
    cases hcb : callable P f with
    | false => simp [hcb] at h
    | true =>
      simp only [hcb, cond_true] at h
      split at h
      · rename_i M₁ hM
        cases hr : retE P fn.results.toList t M₁ with
        | none => simp [hr] at h
        | some u =>
          simp only [hr, Option.map_some, Option.some.injEq, Prod.mk.injEq] at h
          obtain ⟨rfl, rfl⟩ := h
          exact leaves_fn hcu rfl hcb (hc.dfc _ _ _ _ hM) (retE_of hu hr) fun v' ρ' w' hv' h1 h2 h3 => hR v' ρ' w' hv' h1 h2 fun _ _ _ h0 _ hg => hg.trans h0 h3
      · cases h
  · cases h
theorem leave1_eq {P : Program} {c : CC} {r : Nat} {t : Ev} {M : Mem} {d : List Dfr} {x : Value × Mem} (h : leave1 P [.tmp r] (gEnv r) c t M d = some x) : leaveG P [.tmp r] c t M d = some x := by
  cases d with
  | nil =>
    have h : (gEnv r).run [] t (fun v => some (v, M)) = some x := h
    rw [gEnv_eq] at h
    rcases orec_some h with ⟨_, h⟩ | ⟨v, hv, h⟩
    · cases h
    · simp only [leaveG, retE, resE, hv, Option.map_some]; exact h
  | cons y d => exact h
theorem zLeave_eq {P : Program} {rs : List ResultVar} {c : CC} {t : Ev} {M : Mem} {d : List Dfr} {x : Value × Mem} (h : (zLeave P rs).run c t M d = some x) : leaveG P rs c t M d = some x := by
  unfold zLeave at h
  split at h
  · exact leave1_eq h
  · exact h

theorem zArg_under {K : Nat} (hK : ∀ s, s < 0 → K.testBit s = true) : ∀ (l : List Value) (i : Nat) (e : Env) (t : Ev), (∀ s v, t.get s = some v → e.get s = some v) → ∀ s v, (zArg l i t).get s = some v → ((l.zipIdx i).foldl (fun e p => e.put (some p.2) p.1) e).get s = some v
  | [], i, e, t, h => h
  | u :: l, i, e, t, h => by
    have ih := zArg_under hK l (i + 1) (e.put (some i) u) ((sEnv i).run t u) (fun s v hs => by
      rw [sEnv_eq, Ev.get_put] at hs
      rw [Env.get_put]
      by_cases hsi : s = i
      · subst hsi; simp at hs; subst hs; simp
      · simp only [hsi, if_false] at hs; simp [Ne.symm hsi, h s v hs])
    simp only [List.zipIdx_cons, List.foldl_cons]
    exact ih
theorem zArg_bits : ∀ (l : List Value) (i : Nat) (t : Ev) (s : Nat) (v : Value), (zArg l i t).get s = some v → (i ≤ s ∧ s < i + l.length) ∨ t.get s = some v
  | [], i, t, s, v, h => .inr h
  | u :: l, i, t, s, v, h => by
    have h : (zArg l (i + 1) ((sEnv i).run t u)).get s = some v := h
    rcases zArg_bits l (i + 1) _ s v h with h | h
    · exact .inl ⟨by omega, by simp only [List.length_cons]; omega⟩
    · rw [sEnv_eq, Ev.get_put] at h
      by_cases hs : s = i
      · subst hs; exact .inl ⟨Nat.le_refl _, by simp only [List.length_cons]; omega⟩
      · simp only [hs, if_false] at h; exact .inr h
/-- what is handed in is kept -/
def argsKept (K n : Nat) : Bool := (List.range n).all fun s => K.testBit s
theorem start_under {K n i : Nat} {l : List Value} (hK : argsKept K n = true) (hl : i + l.length ≤ n) : Under K ((l.zipIdx i).foldl (fun e p => e.put (some p.2) p.1) []) (zArg l i .nil) := by
  intro s v h
  refine ⟨zArg_under (K := K) (fun s hs => by omega) l i [] .nil (fun s v hs => by rw [Ev.get_nil] at hs; cases hs) s v h, ?_⟩
  rcases zArg_bits l i .nil s v h with ⟨_, h2⟩ | h2
  · exact List.all_eq_true.1 hK s (List.mem_range.2 (by omega))
  · rw [Ev.get_nil] at h2; cases h2

section
variable {P : Program} {tab : List Row} {ext : ExtF} (hmo : P.follows .mixedOrders = true) (hext : ExtOk P ext) (hok : progOk P tab = true)
include hmo hext hok in
theorem body_ok {n lvl f i K : Nat} {fn : Func} {code : Code} {c : CC} {l : List Value} {M M' : Mem} {v : Value} (hc : COk P c) (hf : P.funcs[f]? = some fn) (hb : fn.body = some code) {na : Nat} (hn : na ≤ fn.ntmps) (hK : argsKept K na = true)
    (h : zBody na i (zCode P tab ext n f fn.ntmps K lvl code) (zLeave P fn.results.toList) c l M = some (v, M')) : ∀ ρ w (pre args' : Array Value), pre.size = i → VRs P ρ l.toArray args' → HR P ρ M.get w → Free ρ M.next →
        Calls P f (pre ++ args') w fun e w' => ∃ r' ρ', e = .returned r' ∧ VR P ρ' v r' ∧ HR P ρ' M'.get w' ∧ Free ρ' M'.next ∧ Grow ρ M w ρ' M' w' := by
  intro ρ w pre args' hpre ha hr hfr
  subst hpre
  unfold zBody at h
  rcases brec_some h with ⟨_, h⟩ | ⟨hk, h⟩
  · cases h
  · have hk0 : pre.size + l.length ≤ na := Nat.le_of_ble_eq_true hk
    have hk' : pre.size + l.length ≤ fn.ntmps := Nat.le_trans hk0 hn
    have h : (zCode P tab ext n f fn.ntmps K lvl code).run c (atEnd (zLeave P fn.results.toList).run c) (zArg l pre.size .nil) M [] = some (v, M') := h
    obtain ⟨e, t1, M1, d1, e1, hu1, r1, h1⟩ := code_ok hmo hext lvl code (codeOk_of hok hf hb) c _ _ M [] (v, M') _ hc (start_under hK hk0) h
    have hst := cur_start (k := fn.ntmps) (pre := pre) ha hr hfr (by simpa using hk')
    refine (callsIn_wide (n := 0)).1 (callsIn_of_wp_marks (F := Fw none) (n := 0) hf hb trivial (wpIn_mono (r1 w.heap.size ρ _ w hst (Nat.le_refl _)) ?_))
    rintro x' a' w' ⟨rfl, ρ₀, hc', hg⟩
    have hfin : (x' = .normal ∨ x' = .ret) → (zLeave P fn.results.toList).run c t1 M1 d1 = some (v, M') → LeavesInM (Fw none) 0 P fn a'.tmps (fun e w' => ∃ r' ρ', e = .returned r' ∧ VR P ρ' v r' ∧ HR P ρ' M'.get w' ∧ Free ρ' M'.next ∧ Grow ρ M w ρ' M' w') a'.defers .returning w' :=
      fun _ hl => leaveG_ok hc (zLeave_eq hl) hu1 hc' fun v' ρ' w'' h1 h2 h3 h4 => ⟨v', ρ', rfl, h1, h2, h3, h4 ρ M w hr (Nat.le_refl _) hg⟩
    cases x' with
    | normal => exact hfin (.inl rfl) h1
    | ret => exact hfin (.inr rfl) h1
    | _ => cases h1
include hmo hext hok in
theorem plain_ok {n lvl f K : Nat} {fn : Func} {code : Code} {c : CC} {l : List Value} {M M' : Mem} {v : Value} (hc : COk P c) (hf : P.funcs[f]? = some fn) (hb : fn.body = some code) {na : Nat} (hn : na ≤ fn.ntmps) (hK : argsKept K na = true)
    (h : zBody na 0 (zCode P tab ext n f fn.ntmps K lvl code) ⟨leaveP P fn.results.toList⟩ c l M = some (v, M')) : ADef P f l.toArray M M' := by
  intro ρ w args' u ha hr hfr
  unfold zBody at h
  rcases brec_some h with ⟨_, h⟩ | ⟨hk, h⟩
  · cases h
  · have hk0 : 0 + l.length ≤ na := Nat.le_of_ble_eq_true hk
    have hk' : 0 + l.length ≤ fn.ntmps := Nat.le_trans hk0 hn
    have h : (zCode P tab ext n f fn.ntmps K lvl code).run c (atEnd (leaveP P fn.results.toList) c) (zArg l 0 .nil) M [] = some (v, M') := h
    obtain ⟨e, t1, M1, d1, e1, hu1, r1, h1⟩ := code_ok hmo hext lvl code (codeOk_of hok hf hb) c _ _ M [] (v, M') _ hc (start_under (i := 0) hK hk0) h
    have hst := cur_start (k := fn.ntmps) (pre := #[]) ha hr hfr (by simpa using hk')
    simp only [Array.empty_append] at hst
    refine callsDIn_of_wp (F := Fw none) (n := 0) (R := fun e w' => ∃ v ρ', e = .returned v ∧ HR P ρ' M'.get w' ∧ Free ρ' M'.next ∧ Grow ρ M w ρ' M' w') hf hb trivial (wpIn_mono (r1 w.heap.size ρ _ w hst (Nat.le_refl _)) ?_)
    rintro x' a' w' ⟨rfl, ρ₀, hc', hg⟩
    have hfin : leaveP P fn.results.toList c t1 M1 d1 = some (v, M') → a'.defers = [] ∧ ∃ v, (results fn a'.tmps).run P w' = .ok v w' ∧ ∃ v₁ ρ', Ending.returned v = .returned v₁ ∧ HR P ρ' M'.get w' ∧ Free ρ' M'.next ∧ Grow ρ M w ρ' M' w' := by
      intro hl
      unfold leaveP at hl
      cases hd : d1.isEmpty with
      | false => simp [hd] at hl
      | true =>
        simp only [hd, cond_true] at hl
        have hd : d1 = [] := List.isEmpty_iff.1 hd
        subst hd
        cases hre : retE P fn.results.toList t1 M1 with
        | none => simp [hre] at hl
        | some u' =>
          simp only [hre, Option.map_some, Option.some.injEq, Prod.mk.injEq] at hl
          obtain ⟨rfl, rfl⟩ := hl
          obtain ⟨v', q1, q2⟩ := run_retV hc'.er hc'.hr (retE_of hu1 hre)
          have hd0 : a'.defers = [] := by
            have := hc'.defers
            cases hda : a'.defers with
            | nil => rfl
            | cons d ds => rw [hda] at this; exact this.elim
          exact ⟨hd0, v', q1, v', ρ₀, rfl, hc'.hr, hc'.free, hg⟩
    cases x' with
    | normal => exact hfin h1
    | ret => exact hfin h1
    | _ => cases h1

/-- each function's arguments have room among what is kept -/
theorem keepOf_args (c : Code) (n : Nat) (rs : List ResultVar) : argsKept (keepOf c n rs) n = true := by
  refine List.all_eq_true.2 fun s hs => ?_
  have hs := List.mem_range.1 hs
  unfold keepOf
  split
  rename_i d dd u _
  simp only [Nat.testBit_or, Nat.testBit_two_pow_sub_one, hs, decide_true, Bool.or_true, Bool.true_or]
include hmo hext hok in
theorem mach_ok {ov : Over} (hov : ∀ f g, ov f = some g → ∀ l M v M', g l M = some (v, M') → ACall P f l.toArray M v M') {n lvl : Nat} : ∀ depth, COk P (zMach P tab ext ov n lvl depth) := by
  intro depth
  induction depth with
  | zero => exact ⟨fun f args M v M' h => (by cases h), fun f lb M M' h => (by cases h), fun f cap M M' h => (by cases h)⟩
  | succ depth ih =>
    refine ⟨fun f args M v M' h => ?_, fun f lb M M' h => ?_, fun f cap M M' h => ?_⟩
    · have h : (zFn P tab ext ov n lvl f).call (zMach P tab ext ov n lvl depth) args M = some (v, M') := h
      unfold zFn at h
      split at h
      · rename_i g hg; exact hov f g hg _ _ _ _ h
      · split at h
        · rename_i fn hf
          rw [funZ_eq] at hf
          split at h
          · rename_i code hb
            cases hn : Nat.ble (fn.params.size + fn.nfree) fn.ntmps with
            | false => simp [hn] at h
            | true =>
              simp only [hn, cond_true] at h
              intro ρ w args' ha hr hfr
              have := body_ok hmo hext hok ih hf hb (Nat.le_of_ble_eq_true hn) (keepOf_args _ _ _) h ρ w #[] args' rfl ha hr hfr
              simpa using this
          · cases h
        · cases h
    · have h : ((zFn P tab ext ov n lvl f).seq (zMach P tab ext ov n lvl depth) lb.toList M).map (·.2) = some M' := h
      cases hs : (zFn P tab ext ov n lvl f).seq (zMach P tab ext ov n lvl depth) lb.toList M with
      | none => simp [hs] at h
      | some p =>
        obtain ⟨v, M1⟩ := p
        simp only [hs, Option.map_some, Option.some.injEq] at h
        subst h
        unfold zFn at hs
        split at hs
        · cases hs
        · split at hs
          · rename_i fn hf
            rw [funZ_eq] at hf
            split at hs
            · rename_i code hb
              cases hn : Nat.ble (fn.params.size + fn.nfree) fn.ntmps with
              | false => simp [hn] at hs
              | true =>
                simp only [hn, cond_true] at hs
                intro ρ w y lb' ha hr hfr
                refine (body_ok hmo hext hok ih hf hb (Nat.le_of_ble_eq_true hn) (keepOf_args _ _ _) hs ρ w #[y] lb' rfl (by simpa using ha) hr hfr).mono ?_
                rintro e w' ⟨r', ρ', rfl, h1, h2, h3, h4⟩
                exact ⟨r', ρ', rfl, h2, h3, h4⟩
            · cases hs
          · cases hs
    · have h : ((zFn P tab ext ov n lvl f).dfc (zMach P tab ext ov n lvl depth) cap.toList M).map (·.2) = some M' := h
      cases hs : (zFn P tab ext ov n lvl f).dfc (zMach P tab ext ov n lvl depth) cap.toList M with
      | none => simp [hs] at h
      | some p =>
        obtain ⟨v, M1⟩ := p
        simp only [hs, Option.map_some, Option.some.injEq] at h
        subst h
        unfold zFn at hs
        split at hs
        · cases hs
        · split at hs
          · rename_i fn hf
            rw [funZ_eq] at hf
            split at hs
            · rename_i code hb
              cases hn : Nat.ble (fn.params.size + fn.nfree) fn.ntmps with
              | false => simp [hn] at hs
              | true =>
                simp only [hn, cond_true] at hs
                have := plain_ok hmo hext hok ih hf hb (Nat.le_of_ble_eq_true hn) (keepOf_args _ _ _) hs
                simpa using this
            · cases hs
          · cases hs
end
end Go.Proofs.YtopblipficpilaaGreatDoor.AY
