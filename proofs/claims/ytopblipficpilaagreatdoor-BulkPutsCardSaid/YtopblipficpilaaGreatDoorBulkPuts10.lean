/- The layer: a machine that is quick where a kernel runs it: what it does. Each thing is told by its recursor, and what hangs on the code alone is told first, so that the kernel makes it once. -/
import Derived.Test.YtopblipficpilaaGreatDoorBulkPuts3
namespace Go.Proofs.YtopblipficpilaaGreatDoor.AY
open Go
set_option linter.unusedVariables false
set_option linter.unusedSimpArgs false

abbrev Ans := Option (Value × Mem)
abbrev KV := Value → Ans

/-! ### an environment, of two floors (beyond 64: a trie) -/
structure L8 where
  (v0 v1 v2 v3 v4 v5 v6 v7 : Option Value)
structure Ev where
  (c0 c1 c2 c3 c4 c5 c6 c7 : L8)
  hi : Tr
def L8.nil : L8 := ⟨none, none, none, none, none, none, none, none⟩
def Ev.nil : Ev := ⟨.nil, .nil, .nil, .nil, .nil, .nil, .nil, .nil, .nil⟩
/-- what stands behind the first n: told from the list's end on, so that a kernel finds again what it had -/
noncomputable def lDrop {α : Type} (l : List α) (n : Nat) : List α := Nat.rec (motive := fun _ => List α) l (fun _ ih => List.rec (motive := fun _ => List α) [] (fun _ t _ => t) ih) n
structure G where
  run : List Value → Ev → KV → Ans
structure S0 where
  run : Ev → Value → Ev
/-- on with: how many blocks were numbered, what the region made, the environment, memory -/
abbrev KT := Nat → List Value → Ev → Mem → Ans
structure S where
  run : Ev → Value → Ev
  put : KT → Nat → List Value → Ev → Mem → Value → Ans

noncomputable def gTab : List G := [
  ⟨fun _ t k => Ev.rec (motive := fun _ => KV → Ans) (fun c0 _ _ _ _ _ _ _ _ k => L8.rec (motive := fun _ => KV → Ans) (fun v0 _ _ _ _ _ _ _ k => Option.rec (motive := fun _ => Ans) none k v0) c0 k) t k⟩,
  ⟨fun _ t k => Ev.rec (motive := fun _ => KV → Ans) (fun c0 _ _ _ _ _ _ _ _ k => L8.rec (motive := fun _ => KV → Ans) (fun _ v1 _ _ _ _ _ _ k => Option.rec (motive := fun _ => Ans) none k v1) c0 k) t k⟩,
  ⟨fun _ t k => Ev.rec (motive := fun _ => KV → Ans) (fun c0 _ _ _ _ _ _ _ _ k => L8.rec (motive := fun _ => KV → Ans) (fun _ _ v2 _ _ _ _ _ k => Option.rec (motive := fun _ => Ans) none k v2) c0 k) t k⟩,
  ⟨fun _ t k => Ev.rec (motive := fun _ => KV → Ans) (fun c0 _ _ _ _ _ _ _ _ k => L8.rec (motive := fun _ => KV → Ans) (fun _ _ _ v3 _ _ _ _ k => Option.rec (motive := fun _ => Ans) none k v3) c0 k) t k⟩,
  ⟨fun _ t k => Ev.rec (motive := fun _ => KV → Ans) (fun c0 _ _ _ _ _ _ _ _ k => L8.rec (motive := fun _ => KV → Ans) (fun _ _ _ _ v4 _ _ _ k => Option.rec (motive := fun _ => Ans) none k v4) c0 k) t k⟩,
  ⟨fun _ t k => Ev.rec (motive := fun _ => KV → Ans) (fun c0 _ _ _ _ _ _ _ _ k => L8.rec (motive := fun _ => KV → Ans) (fun _ _ _ _ _ v5 _ _ k => Option.rec (motive := fun _ => Ans) none k v5) c0 k) t k⟩,
  ⟨fun _ t k => Ev.rec (motive := fun _ => KV → Ans) (fun c0 _ _ _ _ _ _ _ _ k => L8.rec (motive := fun _ => KV → Ans) (fun _ _ _ _ _ _ v6 _ k => Option.rec (motive := fun _ => Ans) none k v6) c0 k) t k⟩,
  ⟨fun _ t k => Ev.rec (motive := fun _ => KV → Ans) (fun c0 _ _ _ _ _ _ _ _ k => L8.rec (motive := fun _ => KV → Ans) (fun _ _ _ _ _ _ _ v7 k => Option.rec (motive := fun _ => Ans) none k v7) c0 k) t k⟩,
  ⟨fun _ t k => Ev.rec (motive := fun _ => KV → Ans) (fun _ c1 _ _ _ _ _ _ _ k => L8.rec (motive := fun _ => KV → Ans) (fun v0 _ _ _ _ _ _ _ k => Option.rec (motive := fun _ => Ans) none k v0) c1 k) t k⟩,
  ⟨fun _ t k => Ev.rec (motive := fun _ => KV → Ans) (fun _ c1 _ _ _ _ _ _ _ k => L8.rec (motive := fun _ => KV → Ans) (fun _ v1 _ _ _ _ _ _ k => Option.rec (motive := fun _ => Ans) none k v1) c1 k) t k⟩,
  ⟨fun _ t k => Ev.rec (motive := fun _ => KV → Ans) (fun _ c1 _ _ _ _ _ _ _ k => L8.rec (motive := fun _ => KV → Ans) (fun _ _ v2 _ _ _ _ _ k => Option.rec (motive := fun _ => Ans) none k v2) c1 k) t k⟩,
  ⟨fun _ t k => Ev.rec (motive := fun _ => KV → Ans) (fun _ c1 _ _ _ _ _ _ _ k => L8.rec (motive := fun _ => KV → Ans) (fun _ _ _ v3 _ _ _ _ k => Option.rec (motive := fun _ => Ans) none k v3) c1 k) t k⟩,
  ⟨fun _ t k => Ev.rec (motive := fun _ => KV → Ans) (fun _ c1 _ _ _ _ _ _ _ k => L8.rec (motive := fun _ => KV → Ans) (fun _ _ _ _ v4 _ _ _ k => Option.rec (motive := fun _ => Ans) none k v4) c1 k) t k⟩,
  ⟨fun _ t k => Ev.rec (motive := fun _ => KV → Ans) (fun _ c1 _ _ _ _ _ _ _ k => L8.rec (motive := fun _ => KV → Ans) (fun _ _ _ _ _ v5 _ _ k => Option.rec (motive := fun _ => Ans) none k v5) c1 k) t k⟩,
  ⟨fun _ t k => Ev.rec (motive := fun _ => KV → Ans) (fun _ c1 _ _ _ _ _ _ _ k => L8.rec (motive := fun _ => KV → Ans) (fun _ _ _ _ _ _ v6 _ k => Option.rec (motive := fun _ => Ans) none k v6) c1 k) t k⟩,
  ⟨fun _ t k => Ev.rec (motive := fun _ => KV → Ans) (fun _ c1 _ _ _ _ _ _ _ k => L8.rec (motive := fun _ => KV → Ans) (fun _ _ _ _ _ _ _ v7 k => Option.rec (motive := fun _ => Ans) none k v7) c1 k) t k⟩,
  ⟨fun _ t k => Ev.rec (motive := fun _ => KV → Ans) (fun _ _ c2 _ _ _ _ _ _ k => L8.rec (motive := fun _ => KV → Ans) (fun v0 _ _ _ _ _ _ _ k => Option.rec (motive := fun _ => Ans) none k v0) c2 k) t k⟩,
  ⟨fun _ t k => Ev.rec (motive := fun _ => KV → Ans) (fun _ _ c2 _ _ _ _ _ _ k => L8.rec (motive := fun _ => KV → Ans) (fun _ v1 _ _ _ _ _ _ k => Option.rec (motive := fun _ => Ans) none k v1) c2 k) t k⟩,
  ⟨fun _ t k => Ev.rec (motive := fun _ => KV → Ans) (fun _ _ c2 _ _ _ _ _ _ k => L8.rec (motive := fun _ => KV → Ans) (fun _ _ v2 _ _ _ _ _ k => Option.rec (motive := fun _ => Ans) none k v2) c2 k) t k⟩,
  ⟨fun _ t k => Ev.rec (motive := fun _ => KV → Ans) (fun _ _ c2 _ _ _ _ _ _ k => L8.rec (motive := fun _ => KV → Ans) (fun _ _ _ v3 _ _ _ _ k => Option.rec (motive := fun _ => Ans) none k v3) c2 k) t k⟩,
  ⟨fun _ t k => Ev.rec (motive := fun _ => KV → Ans) (fun _ _ c2 _ _ _ _ _ _ k => L8.rec (motive := fun _ => KV → Ans) (fun _ _ _ _ v4 _ _ _ k => Option.rec (motive := fun _ => Ans) none k v4) c2 k) t k⟩,
  ⟨fun _ t k => Ev.rec (motive := fun _ => KV → Ans) (fun _ _ c2 _ _ _ _ _ _ k => L8.rec (motive := fun _ => KV → Ans) (fun _ _ _ _ _ v5 _ _ k => Option.rec (motive := fun _ => Ans) none k v5) c2 k) t k⟩,
  ⟨fun _ t k => Ev.rec (motive := fun _ => KV → Ans) (fun _ _ c2 _ _ _ _ _ _ k => L8.rec (motive := fun _ => KV → Ans) (fun _ _ _ _ _ _ v6 _ k => Option.rec (motive := fun _ => Ans) none k v6) c2 k) t k⟩,
  ⟨fun _ t k => Ev.rec (motive := fun _ => KV → Ans) (fun _ _ c2 _ _ _ _ _ _ k => L8.rec (motive := fun _ => KV → Ans) (fun _ _ _ _ _ _ _ v7 k => Option.rec (motive := fun _ => Ans) none k v7) c2 k) t k⟩,
  ⟨fun _ t k => Ev.rec (motive := fun _ => KV → Ans) (fun _ _ _ c3 _ _ _ _ _ k => L8.rec (motive := fun _ => KV → Ans) (fun v0 _ _ _ _ _ _ _ k => Option.rec (motive := fun _ => Ans) none k v0) c3 k) t k⟩,
  ⟨fun _ t k => Ev.rec (motive := fun _ => KV → Ans) (fun _ _ _ c3 _ _ _ _ _ k => L8.rec (motive := fun _ => KV → Ans) (fun _ v1 _ _ _ _ _ _ k => Option.rec (motive := fun _ => Ans) none k v1) c3 k) t k⟩,
  ⟨fun _ t k => Ev.rec (motive := fun _ => KV → Ans) (fun _ _ _ c3 _ _ _ _ _ k => L8.rec (motive := fun _ => KV → Ans) (fun _ _ v2 _ _ _ _ _ k => Option.rec (motive := fun _ => Ans) none k v2) c3 k) t k⟩,
  ⟨fun _ t k => Ev.rec (motive := fun _ => KV → Ans) (fun _ _ _ c3 _ _ _ _ _ k => L8.rec (motive := fun _ => KV → Ans) (fun _ _ _ v3 _ _ _ _ k => Option.rec (motive := fun _ => Ans) none k v3) c3 k) t k⟩,
  ⟨fun _ t k => Ev.rec (motive := fun _ => KV → Ans) (fun _ _ _ c3 _ _ _ _ _ k => L8.rec (motive := fun _ => KV → Ans) (fun _ _ _ _ v4 _ _ _ k => Option.rec (motive := fun _ => Ans) none k v4) c3 k) t k⟩,
  ⟨fun _ t k => Ev.rec (motive := fun _ => KV → Ans) (fun _ _ _ c3 _ _ _ _ _ k => L8.rec (motive := fun _ => KV → Ans) (fun _ _ _ _ _ v5 _ _ k => Option.rec (motive := fun _ => Ans) none k v5) c3 k) t k⟩,
  ⟨fun _ t k => Ev.rec (motive := fun _ => KV → Ans) (fun _ _ _ c3 _ _ _ _ _ k => L8.rec (motive := fun _ => KV → Ans) (fun _ _ _ _ _ _ v6 _ k => Option.rec (motive := fun _ => Ans) none k v6) c3 k) t k⟩,
  ⟨fun _ t k => Ev.rec (motive := fun _ => KV → Ans) (fun _ _ _ c3 _ _ _ _ _ k => L8.rec (motive := fun _ => KV → Ans) (fun _ _ _ _ _ _ _ v7 k => Option.rec (motive := fun _ => Ans) none k v7) c3 k) t k⟩,
  ⟨fun _ t k => Ev.rec (motive := fun _ => KV → Ans) (fun _ _ _ _ c4 _ _ _ _ k => L8.rec (motive := fun _ => KV → Ans) (fun v0 _ _ _ _ _ _ _ k => Option.rec (motive := fun _ => Ans) none k v0) c4 k) t k⟩,
  ⟨fun _ t k => Ev.rec (motive := fun _ => KV → Ans) (fun _ _ _ _ c4 _ _ _ _ k => L8.rec (motive := fun _ => KV → Ans) (fun _ v1 _ _ _ _ _ _ k => Option.rec (motive := fun _ => Ans) none k v1) c4 k) t k⟩,
  ⟨fun _ t k => Ev.rec (motive := fun _ => KV → Ans) (fun _ _ _ _ c4 _ _ _ _ k => L8.rec (motive := fun _ => KV → Ans) (fun _ _ v2 _ _ _ _ _ k => Option.rec (motive := fun _ => Ans) none k v2) c4 k) t k⟩,
  ⟨fun _ t k => Ev.rec (motive := fun _ => KV → Ans) (fun _ _ _ _ c4 _ _ _ _ k => L8.rec (motive := fun _ => KV → Ans) (fun _ _ _ v3 _ _ _ _ k => Option.rec (motive := fun _ => Ans) none k v3) c4 k) t k⟩,
  ⟨fun _ t k => Ev.rec (motive := fun _ => KV → Ans) (fun _ _ _ _ c4 _ _ _ _ k => L8.rec (motive := fun _ => KV → Ans) (fun _ _ _ _ v4 _ _ _ k => Option.rec (motive := fun _ => Ans) none k v4) c4 k) t k⟩,
  ⟨fun _ t k => Ev.rec (motive := fun _ => KV → Ans) (fun _ _ _ _ c4 _ _ _ _ k => L8.rec (motive := fun _ => KV → Ans) (fun _ _ _ _ _ v5 _ _ k => Option.rec (motive := fun _ => Ans) none k v5) c4 k) t k⟩,
  ⟨fun _ t k => Ev.rec (motive := fun _ => KV → Ans) (fun _ _ _ _ c4 _ _ _ _ k => L8.rec (motive := fun _ => KV → Ans) (fun _ _ _ _ _ _ v6 _ k => Option.rec (motive := fun _ => Ans) none k v6) c4 k) t k⟩,
  ⟨fun _ t k => Ev.rec (motive := fun _ => KV → Ans) (fun _ _ _ _ c4 _ _ _ _ k => L8.rec (motive := fun _ => KV → Ans) (fun _ _ _ _ _ _ _ v7 k => Option.rec (motive := fun _ => Ans) none k v7) c4 k) t k⟩,
  ⟨fun _ t k => Ev.rec (motive := fun _ => KV → Ans) (fun _ _ _ _ _ c5 _ _ _ k => L8.rec (motive := fun _ => KV → Ans) (fun v0 _ _ _ _ _ _ _ k => Option.rec (motive := fun _ => Ans) none k v0) c5 k) t k⟩,
  ⟨fun _ t k => Ev.rec (motive := fun _ => KV → Ans) (fun _ _ _ _ _ c5 _ _ _ k => L8.rec (motive := fun _ => KV → Ans) (fun _ v1 _ _ _ _ _ _ k => Option.rec (motive := fun _ => Ans) none k v1) c5 k) t k⟩,
  ⟨fun _ t k => Ev.rec (motive := fun _ => KV → Ans) (fun _ _ _ _ _ c5 _ _ _ k => L8.rec (motive := fun _ => KV → Ans) (fun _ _ v2 _ _ _ _ _ k => Option.rec (motive := fun _ => Ans) none k v2) c5 k) t k⟩,
  ⟨fun _ t k => Ev.rec (motive := fun _ => KV → Ans) (fun _ _ _ _ _ c5 _ _ _ k => L8.rec (motive := fun _ => KV → Ans) (fun _ _ _ v3 _ _ _ _ k => Option.rec (motive := fun _ => Ans) none k v3) c5 k) t k⟩,
  ⟨fun _ t k => Ev.rec (motive := fun _ => KV → Ans) (fun _ _ _ _ _ c5 _ _ _ k => L8.rec (motive := fun _ => KV → Ans) (fun _ _ _ _ v4 _ _ _ k => Option.rec (motive := fun _ => Ans) none k v4) c5 k) t k⟩,
  ⟨fun _ t k => Ev.rec (motive := fun _ => KV → Ans) (fun _ _ _ _ _ c5 _ _ _ k => L8.rec (motive := fun _ => KV → Ans) (fun _ _ _ _ _ v5 _ _ k => Option.rec (motive := fun _ => Ans) none k v5) c5 k) t k⟩,
  ⟨fun _ t k => Ev.rec (motive := fun _ => KV → Ans) (fun _ _ _ _ _ c5 _ _ _ k => L8.rec (motive := fun _ => KV → Ans) (fun _ _ _ _ _ _ v6 _ k => Option.rec (motive := fun _ => Ans) none k v6) c5 k) t k⟩,
  ⟨fun _ t k => Ev.rec (motive := fun _ => KV → Ans) (fun _ _ _ _ _ c5 _ _ _ k => L8.rec (motive := fun _ => KV → Ans) (fun _ _ _ _ _ _ _ v7 k => Option.rec (motive := fun _ => Ans) none k v7) c5 k) t k⟩,
  ⟨fun _ t k => Ev.rec (motive := fun _ => KV → Ans) (fun _ _ _ _ _ _ c6 _ _ k => L8.rec (motive := fun _ => KV → Ans) (fun v0 _ _ _ _ _ _ _ k => Option.rec (motive := fun _ => Ans) none k v0) c6 k) t k⟩,
  ⟨fun _ t k => Ev.rec (motive := fun _ => KV → Ans) (fun _ _ _ _ _ _ c6 _ _ k => L8.rec (motive := fun _ => KV → Ans) (fun _ v1 _ _ _ _ _ _ k => Option.rec (motive := fun _ => Ans) none k v1) c6 k) t k⟩,
  ⟨fun _ t k => Ev.rec (motive := fun _ => KV → Ans) (fun _ _ _ _ _ _ c6 _ _ k => L8.rec (motive := fun _ => KV → Ans) (fun _ _ v2 _ _ _ _ _ k => Option.rec (motive := fun _ => Ans) none k v2) c6 k) t k⟩,
  ⟨fun _ t k => Ev.rec (motive := fun _ => KV → Ans) (fun _ _ _ _ _ _ c6 _ _ k => L8.rec (motive := fun _ => KV → Ans) (fun _ _ _ v3 _ _ _ _ k => Option.rec (motive := fun _ => Ans) none k v3) c6 k) t k⟩,
  ⟨fun _ t k => Ev.rec (motive := fun _ => KV → Ans) (fun _ _ _ _ _ _ c6 _ _ k => L8.rec (motive := fun _ => KV → Ans) (fun _ _ _ _ v4 _ _ _ k => Option.rec (motive := fun _ => Ans) none k v4) c6 k) t k⟩,
  ⟨fun _ t k => Ev.rec (motive := fun _ => KV → Ans) (fun _ _ _ _ _ _ c6 _ _ k => L8.rec (motive := fun _ => KV → Ans) (fun _ _ _ _ _ v5 _ _ k => Option.rec (motive := fun _ => Ans) none k v5) c6 k) t k⟩,
  ⟨fun _ t k => Ev.rec (motive := fun _ => KV → Ans) (fun _ _ _ _ _ _ c6 _ _ k => L8.rec (motive := fun _ => KV → Ans) (fun _ _ _ _ _ _ v6 _ k => Option.rec (motive := fun _ => Ans) none k v6) c6 k) t k⟩,
  ⟨fun _ t k => Ev.rec (motive := fun _ => KV → Ans) (fun _ _ _ _ _ _ c6 _ _ k => L8.rec (motive := fun _ => KV → Ans) (fun _ _ _ _ _ _ _ v7 k => Option.rec (motive := fun _ => Ans) none k v7) c6 k) t k⟩,
  ⟨fun _ t k => Ev.rec (motive := fun _ => KV → Ans) (fun _ _ _ _ _ _ _ c7 _ k => L8.rec (motive := fun _ => KV → Ans) (fun v0 _ _ _ _ _ _ _ k => Option.rec (motive := fun _ => Ans) none k v0) c7 k) t k⟩,
  ⟨fun _ t k => Ev.rec (motive := fun _ => KV → Ans) (fun _ _ _ _ _ _ _ c7 _ k => L8.rec (motive := fun _ => KV → Ans) (fun _ v1 _ _ _ _ _ _ k => Option.rec (motive := fun _ => Ans) none k v1) c7 k) t k⟩,
  ⟨fun _ t k => Ev.rec (motive := fun _ => KV → Ans) (fun _ _ _ _ _ _ _ c7 _ k => L8.rec (motive := fun _ => KV → Ans) (fun _ _ v2 _ _ _ _ _ k => Option.rec (motive := fun _ => Ans) none k v2) c7 k) t k⟩,
  ⟨fun _ t k => Ev.rec (motive := fun _ => KV → Ans) (fun _ _ _ _ _ _ _ c7 _ k => L8.rec (motive := fun _ => KV → Ans) (fun _ _ _ v3 _ _ _ _ k => Option.rec (motive := fun _ => Ans) none k v3) c7 k) t k⟩,
  ⟨fun _ t k => Ev.rec (motive := fun _ => KV → Ans) (fun _ _ _ _ _ _ _ c7 _ k => L8.rec (motive := fun _ => KV → Ans) (fun _ _ _ _ v4 _ _ _ k => Option.rec (motive := fun _ => Ans) none k v4) c7 k) t k⟩,
  ⟨fun _ t k => Ev.rec (motive := fun _ => KV → Ans) (fun _ _ _ _ _ _ _ c7 _ k => L8.rec (motive := fun _ => KV → Ans) (fun _ _ _ _ _ v5 _ _ k => Option.rec (motive := fun _ => Ans) none k v5) c7 k) t k⟩,
  ⟨fun _ t k => Ev.rec (motive := fun _ => KV → Ans) (fun _ _ _ _ _ _ _ c7 _ k => L8.rec (motive := fun _ => KV → Ans) (fun _ _ _ _ _ _ v6 _ k => Option.rec (motive := fun _ => Ans) none k v6) c7 k) t k⟩,
  ⟨fun _ t k => Ev.rec (motive := fun _ => KV → Ans) (fun _ _ _ _ _ _ _ c7 _ k => L8.rec (motive := fun _ => KV → Ans) (fun _ _ _ _ _ _ _ v7 k => Option.rec (motive := fun _ => Ans) none k v7) c7 k) t k⟩]
noncomputable def sTab : List S0 := [
  ⟨fun t v => Ev.rec (motive := fun _ => Value → Ev) (fun c0 c1 c2 c3 c4 c5 c6 c7 h v => ⟨L8.rec (motive := fun _ => Value → L8) (fun _ v1 v2 v3 v4 v5 v6 v7 v => ⟨some v, v1, v2, v3, v4, v5, v6, v7⟩) c0 v, c1, c2, c3, c4, c5, c6, c7, h⟩) t v⟩,
  ⟨fun t v => Ev.rec (motive := fun _ => Value → Ev) (fun c0 c1 c2 c3 c4 c5 c6 c7 h v => ⟨L8.rec (motive := fun _ => Value → L8) (fun v0 _ v2 v3 v4 v5 v6 v7 v => ⟨v0, some v, v2, v3, v4, v5, v6, v7⟩) c0 v, c1, c2, c3, c4, c5, c6, c7, h⟩) t v⟩,
  ⟨fun t v => Ev.rec (motive := fun _ => Value → Ev) (fun c0 c1 c2 c3 c4 c5 c6 c7 h v => ⟨L8.rec (motive := fun _ => Value → L8) (fun v0 v1 _ v3 v4 v5 v6 v7 v => ⟨v0, v1, some v, v3, v4, v5, v6, v7⟩) c0 v, c1, c2, c3, c4, c5, c6, c7, h⟩) t v⟩,
  ⟨fun t v => Ev.rec (motive := fun _ => Value → Ev) (fun c0 c1 c2 c3 c4 c5 c6 c7 h v => ⟨L8.rec (motive := fun _ => Value → L8) (fun v0 v1 v2 _ v4 v5 v6 v7 v => ⟨v0, v1, v2, some v, v4, v5, v6, v7⟩) c0 v, c1, c2, c3, c4, c5, c6, c7, h⟩) t v⟩,
  ⟨fun t v => Ev.rec (motive := fun _ => Value → Ev) (fun c0 c1 c2 c3 c4 c5 c6 c7 h v => ⟨L8.rec (motive := fun _ => Value → L8) (fun v0 v1 v2 v3 _ v5 v6 v7 v => ⟨v0, v1, v2, v3, some v, v5, v6, v7⟩) c0 v, c1, c2, c3, c4, c5, c6, c7, h⟩) t v⟩,
  ⟨fun t v => Ev.rec (motive := fun _ => Value → Ev) (fun c0 c1 c2 c3 c4 c5 c6 c7 h v => ⟨L8.rec (motive := fun _ => Value → L8) (fun v0 v1 v2 v3 v4 _ v6 v7 v => ⟨v0, v1, v2, v3, v4, some v, v6, v7⟩) c0 v, c1, c2, c3, c4, c5, c6, c7, h⟩) t v⟩,
  ⟨fun t v => Ev.rec (motive := fun _ => Value → Ev) (fun c0 c1 c2 c3 c4 c5 c6 c7 h v => ⟨L8.rec (motive := fun _ => Value → L8) (fun v0 v1 v2 v3 v4 v5 _ v7 v => ⟨v0, v1, v2, v3, v4, v5, some v, v7⟩) c0 v, c1, c2, c3, c4, c5, c6, c7, h⟩) t v⟩,
  ⟨fun t v => Ev.rec (motive := fun _ => Value → Ev) (fun c0 c1 c2 c3 c4 c5 c6 c7 h v => ⟨L8.rec (motive := fun _ => Value → L8) (fun v0 v1 v2 v3 v4 v5 v6 _ v => ⟨v0, v1, v2, v3, v4, v5, v6, some v⟩) c0 v, c1, c2, c3, c4, c5, c6, c7, h⟩) t v⟩,
  ⟨fun t v => Ev.rec (motive := fun _ => Value → Ev) (fun c0 c1 c2 c3 c4 c5 c6 c7 h v => ⟨c0, L8.rec (motive := fun _ => Value → L8) (fun _ v1 v2 v3 v4 v5 v6 v7 v => ⟨some v, v1, v2, v3, v4, v5, v6, v7⟩) c1 v, c2, c3, c4, c5, c6, c7, h⟩) t v⟩,
  ⟨fun t v => Ev.rec (motive := fun _ => Value → Ev) (fun c0 c1 c2 c3 c4 c5 c6 c7 h v => ⟨c0, L8.rec (motive := fun _ => Value → L8) (fun v0 _ v2 v3 v4 v5 v6 v7 v => ⟨v0, some v, v2, v3, v4, v5, v6, v7⟩) c1 v, c2, c3, c4, c5, c6, c7, h⟩) t v⟩,
  ⟨fun t v => Ev.rec (motive := fun _ => Value → Ev) (fun c0 c1 c2 c3 c4 c5 c6 c7 h v => ⟨c0, L8.rec (motive := fun _ => Value → L8) (fun v0 v1 _ v3 v4 v5 v6 v7 v => ⟨v0, v1, some v, v3, v4, v5, v6, v7⟩) c1 v, c2, c3, c4, c5, c6, c7, h⟩) t v⟩,
  ⟨fun t v => Ev.rec (motive := fun _ => Value → Ev) (fun c0 c1 c2 c3 c4 c5 c6 c7 h v => ⟨c0, L8.rec (motive := fun _ => Value → L8) (fun v0 v1 v2 _ v4 v5 v6 v7 v => ⟨v0, v1, v2, some v, v4, v5, v6, v7⟩) c1 v, c2, c3, c4, c5, c6, c7, h⟩) t v⟩,
  ⟨fun t v => Ev.rec (motive := fun _ => Value → Ev) (fun c0 c1 c2 c3 c4 c5 c6 c7 h v => ⟨c0, L8.rec (motive := fun _ => Value → L8) (fun v0 v1 v2 v3 _ v5 v6 v7 v => ⟨v0, v1, v2, v3, some v, v5, v6, v7⟩) c1 v, c2, c3, c4, c5, c6, c7, h⟩) t v⟩,
  ⟨fun t v => Ev.rec (motive := fun _ => Value → Ev) (fun c0 c1 c2 c3 c4 c5 c6 c7 h v => ⟨c0, L8.rec (motive := fun _ => Value → L8) (fun v0 v1 v2 v3 v4 _ v6 v7 v => ⟨v0, v1, v2, v3, v4, some v, v6, v7⟩) c1 v, c2, c3, c4, c5, c6, c7, h⟩) t v⟩,
  ⟨fun t v => Ev.rec (motive := fun _ => Value → Ev) (fun c0 c1 c2 c3 c4 c5 c6 c7 h v => ⟨c0, L8.rec (motive := fun _ => Value → L8) (fun v0 v1 v2 v3 v4 v5 _ v7 v => ⟨v0, v1, v2, v3, v4, v5, some v, v7⟩) c1 v, c2, c3, c4, c5, c6, c7, h⟩) t v⟩,
  ⟨fun t v => Ev.rec (motive := fun _ => Value → Ev) (fun c0 c1 c2 c3 c4 c5 c6 c7 h v => ⟨c0, L8.rec (motive := fun _ => Value → L8) (fun v0 v1 v2 v3 v4 v5 v6 _ v => ⟨v0, v1, v2, v3, v4, v5, v6, some v⟩) c1 v, c2, c3, c4, c5, c6, c7, h⟩) t v⟩,
  ⟨fun t v => Ev.rec (motive := fun _ => Value → Ev) (fun c0 c1 c2 c3 c4 c5 c6 c7 h v => ⟨c0, c1, L8.rec (motive := fun _ => Value → L8) (fun _ v1 v2 v3 v4 v5 v6 v7 v => ⟨some v, v1, v2, v3, v4, v5, v6, v7⟩) c2 v, c3, c4, c5, c6, c7, h⟩) t v⟩,
  ⟨fun t v => Ev.rec (motive := fun _ => Value → Ev) (fun c0 c1 c2 c3 c4 c5 c6 c7 h v => ⟨c0, c1, L8.rec (motive := fun _ => Value → L8) (fun v0 _ v2 v3 v4 v5 v6 v7 v => ⟨v0, some v, v2, v3, v4, v5, v6, v7⟩) c2 v, c3, c4, c5, c6, c7, h⟩) t v⟩,
  ⟨fun t v => Ev.rec (motive := fun _ => Value → Ev) (fun c0 c1 c2 c3 c4 c5 c6 c7 h v => ⟨c0, c1, L8.rec (motive := fun _ => Value → L8) (fun v0 v1 _ v3 v4 v5 v6 v7 v => ⟨v0, v1, some v, v3, v4, v5, v6, v7⟩) c2 v, c3, c4, c5, c6, c7, h⟩) t v⟩,
  ⟨fun t v => Ev.rec (motive := fun _ => Value → Ev) (fun c0 c1 c2 c3 c4 c5 c6 c7 h v => ⟨c0, c1, L8.rec (motive := fun _ => Value → L8) (fun v0 v1 v2 _ v4 v5 v6 v7 v => ⟨v0, v1, v2, some v, v4, v5, v6, v7⟩) c2 v, c3, c4, c5, c6, c7, h⟩) t v⟩,
  ⟨fun t v => Ev.rec (motive := fun _ => Value → Ev) (fun c0 c1 c2 c3 c4 c5 c6 c7 h v => ⟨c0, c1, L8.rec (motive := fun _ => Value → L8) (fun v0 v1 v2 v3 _ v5 v6 v7 v => ⟨v0, v1, v2, v3, some v, v5, v6, v7⟩) c2 v, c3, c4, c5, c6, c7, h⟩) t v⟩,
  ⟨fun t v => Ev.rec (motive := fun _ => Value → Ev) (fun c0 c1 c2 c3 c4 c5 c6 c7 h v => ⟨c0, c1, L8.rec (motive := fun _ => Value → L8) (fun v0 v1 v2 v3 v4 _ v6 v7 v => ⟨v0, v1, v2, v3, v4, some v, v6, v7⟩) c2 v, c3, c4, c5, c6, c7, h⟩) t v⟩,
  ⟨fun t v => Ev.rec (motive := fun _ => Value → Ev) (fun c0 c1 c2 c3 c4 c5 c6 c7 h v => ⟨c0, c1, L8.rec (motive := fun _ => Value → L8) (fun v0 v1 v2 v3 v4 v5 _ v7 v => ⟨v0, v1, v2, v3, v4, v5, some v, v7⟩) c2 v, c3, c4, c5, c6, c7, h⟩) t v⟩,
  ⟨fun t v => Ev.rec (motive := fun _ => Value → Ev) (fun c0 c1 c2 c3 c4 c5 c6 c7 h v => ⟨c0, c1, L8.rec (motive := fun _ => Value → L8) (fun v0 v1 v2 v3 v4 v5 v6 _ v => ⟨v0, v1, v2, v3, v4, v5, v6, some v⟩) c2 v, c3, c4, c5, c6, c7, h⟩) t v⟩,
  ⟨fun t v => Ev.rec (motive := fun _ => Value → Ev) (fun c0 c1 c2 c3 c4 c5 c6 c7 h v => ⟨c0, c1, c2, L8.rec (motive := fun _ => Value → L8) (fun _ v1 v2 v3 v4 v5 v6 v7 v => ⟨some v, v1, v2, v3, v4, v5, v6, v7⟩) c3 v, c4, c5, c6, c7, h⟩) t v⟩,
  ⟨fun t v => Ev.rec (motive := fun _ => Value → Ev) (fun c0 c1 c2 c3 c4 c5 c6 c7 h v => ⟨c0, c1, c2, L8.rec (motive := fun _ => Value → L8) (fun v0 _ v2 v3 v4 v5 v6 v7 v => ⟨v0, some v, v2, v3, v4, v5, v6, v7⟩) c3 v, c4, c5, c6, c7, h⟩) t v⟩,
  ⟨fun t v => Ev.rec (motive := fun _ => Value → Ev) (fun c0 c1 c2 c3 c4 c5 c6 c7 h v => ⟨c0, c1, c2, L8.rec (motive := fun _ => Value → L8) (fun v0 v1 _ v3 v4 v5 v6 v7 v => ⟨v0, v1, some v, v3, v4, v5, v6, v7⟩) c3 v, c4, c5, c6, c7, h⟩) t v⟩,
  ⟨fun t v => Ev.rec (motive := fun _ => Value → Ev) (fun c0 c1 c2 c3 c4 c5 c6 c7 h v => ⟨c0, c1, c2, L8.rec (motive := fun _ => Value → L8) (fun v0 v1 v2 _ v4 v5 v6 v7 v => ⟨v0, v1, v2, some v, v4, v5, v6, v7⟩) c3 v, c4, c5, c6, c7, h⟩) t v⟩,
  ⟨fun t v => Ev.rec (motive := fun _ => Value → Ev) (fun c0 c1 c2 c3 c4 c5 c6 c7 h v => ⟨c0, c1, c2, L8.rec (motive := fun _ => Value → L8) (fun v0 v1 v2 v3 _ v5 v6 v7 v => ⟨v0, v1, v2, v3, some v, v5, v6, v7⟩) c3 v, c4, c5, c6, c7, h⟩) t v⟩,
  ⟨fun t v => Ev.rec (motive := fun _ => Value → Ev) (fun c0 c1 c2 c3 c4 c5 c6 c7 h v => ⟨c0, c1, c2, L8.rec (motive := fun _ => Value → L8) (fun v0 v1 v2 v3 v4 _ v6 v7 v => ⟨v0, v1, v2, v3, v4, some v, v6, v7⟩) c3 v, c4, c5, c6, c7, h⟩) t v⟩,
  ⟨fun t v => Ev.rec (motive := fun _ => Value → Ev) (fun c0 c1 c2 c3 c4 c5 c6 c7 h v => ⟨c0, c1, c2, L8.rec (motive := fun _ => Value → L8) (fun v0 v1 v2 v3 v4 v5 _ v7 v => ⟨v0, v1, v2, v3, v4, v5, some v, v7⟩) c3 v, c4, c5, c6, c7, h⟩) t v⟩,
  ⟨fun t v => Ev.rec (motive := fun _ => Value → Ev) (fun c0 c1 c2 c3 c4 c5 c6 c7 h v => ⟨c0, c1, c2, L8.rec (motive := fun _ => Value → L8) (fun v0 v1 v2 v3 v4 v5 v6 _ v => ⟨v0, v1, v2, v3, v4, v5, v6, some v⟩) c3 v, c4, c5, c6, c7, h⟩) t v⟩,
  ⟨fun t v => Ev.rec (motive := fun _ => Value → Ev) (fun c0 c1 c2 c3 c4 c5 c6 c7 h v => ⟨c0, c1, c2, c3, L8.rec (motive := fun _ => Value → L8) (fun _ v1 v2 v3 v4 v5 v6 v7 v => ⟨some v, v1, v2, v3, v4, v5, v6, v7⟩) c4 v, c5, c6, c7, h⟩) t v⟩,
  ⟨fun t v => Ev.rec (motive := fun _ => Value → Ev) (fun c0 c1 c2 c3 c4 c5 c6 c7 h v => ⟨c0, c1, c2, c3, L8.rec (motive := fun _ => Value → L8) (fun v0 _ v2 v3 v4 v5 v6 v7 v => ⟨v0, some v, v2, v3, v4, v5, v6, v7⟩) c4 v, c5, c6, c7, h⟩) t v⟩,
  ⟨fun t v => Ev.rec (motive := fun _ => Value → Ev) (fun c0 c1 c2 c3 c4 c5 c6 c7 h v => ⟨c0, c1, c2, c3, L8.rec (motive := fun _ => Value → L8) (fun v0 v1 _ v3 v4 v5 v6 v7 v => ⟨v0, v1, some v, v3, v4, v5, v6, v7⟩) c4 v, c5, c6, c7, h⟩) t v⟩,
  ⟨fun t v => Ev.rec (motive := fun _ => Value → Ev) (fun c0 c1 c2 c3 c4 c5 c6 c7 h v => ⟨c0, c1, c2, c3, L8.rec (motive := fun _ => Value → L8) (fun v0 v1 v2 _ v4 v5 v6 v7 v => ⟨v0, v1, v2, some v, v4, v5, v6, v7⟩) c4 v, c5, c6, c7, h⟩) t v⟩,
  ⟨fun t v => Ev.rec (motive := fun _ => Value → Ev) (fun c0 c1 c2 c3 c4 c5 c6 c7 h v => ⟨c0, c1, c2, c3, L8.rec (motive := fun _ => Value → L8) (fun v0 v1 v2 v3 _ v5 v6 v7 v => ⟨v0, v1, v2, v3, some v, v5, v6, v7⟩) c4 v, c5, c6, c7, h⟩) t v⟩,
  ⟨fun t v => Ev.rec (motive := fun _ => Value → Ev) (fun c0 c1 c2 c3 c4 c5 c6 c7 h v => ⟨c0, c1, c2, c3, L8.rec (motive := fun _ => Value → L8) (fun v0 v1 v2 v3 v4 _ v6 v7 v => ⟨v0, v1, v2, v3, v4, some v, v6, v7⟩) c4 v, c5, c6, c7, h⟩) t v⟩,
  ⟨fun t v => Ev.rec (motive := fun _ => Value → Ev) (fun c0 c1 c2 c3 c4 c5 c6 c7 h v => ⟨c0, c1, c2, c3, L8.rec (motive := fun _ => Value → L8) (fun v0 v1 v2 v3 v4 v5 _ v7 v => ⟨v0, v1, v2, v3, v4, v5, some v, v7⟩) c4 v, c5, c6, c7, h⟩) t v⟩,
  ⟨fun t v => Ev.rec (motive := fun _ => Value → Ev) (fun c0 c1 c2 c3 c4 c5 c6 c7 h v => ⟨c0, c1, c2, c3, L8.rec (motive := fun _ => Value → L8) (fun v0 v1 v2 v3 v4 v5 v6 _ v => ⟨v0, v1, v2, v3, v4, v5, v6, some v⟩) c4 v, c5, c6, c7, h⟩) t v⟩,
  ⟨fun t v => Ev.rec (motive := fun _ => Value → Ev) (fun c0 c1 c2 c3 c4 c5 c6 c7 h v => ⟨c0, c1, c2, c3, c4, L8.rec (motive := fun _ => Value → L8) (fun _ v1 v2 v3 v4 v5 v6 v7 v => ⟨some v, v1, v2, v3, v4, v5, v6, v7⟩) c5 v, c6, c7, h⟩) t v⟩,
  ⟨fun t v => Ev.rec (motive := fun _ => Value → Ev) (fun c0 c1 c2 c3 c4 c5 c6 c7 h v => ⟨c0, c1, c2, c3, c4, L8.rec (motive := fun _ => Value → L8) (fun v0 _ v2 v3 v4 v5 v6 v7 v => ⟨v0, some v, v2, v3, v4, v5, v6, v7⟩) c5 v, c6, c7, h⟩) t v⟩,
  ⟨fun t v => Ev.rec (motive := fun _ => Value → Ev) (fun c0 c1 c2 c3 c4 c5 c6 c7 h v => ⟨c0, c1, c2, c3, c4, L8.rec (motive := fun _ => Value → L8) (fun v0 v1 _ v3 v4 v5 v6 v7 v => ⟨v0, v1, some v, v3, v4, v5, v6, v7⟩) c5 v, c6, c7, h⟩) t v⟩,
  ⟨fun t v => Ev.rec (motive := fun _ => Value → Ev) (fun c0 c1 c2 c3 c4 c5 c6 c7 h v => ⟨c0, c1, c2, c3, c4, L8.rec (motive := fun _ => Value → L8) (fun v0 v1 v2 _ v4 v5 v6 v7 v => ⟨v0, v1, v2, some v, v4, v5, v6, v7⟩) c5 v, c6, c7, h⟩) t v⟩,
  ⟨fun t v => Ev.rec (motive := fun _ => Value → Ev) (fun c0 c1 c2 c3 c4 c5 c6 c7 h v => ⟨c0, c1, c2, c3, c4, L8.rec (motive := fun _ => Value → L8) (fun v0 v1 v2 v3 _ v5 v6 v7 v => ⟨v0, v1, v2, v3, some v, v5, v6, v7⟩) c5 v, c6, c7, h⟩) t v⟩,
  ⟨fun t v => Ev.rec (motive := fun _ => Value → Ev) (fun c0 c1 c2 c3 c4 c5 c6 c7 h v => ⟨c0, c1, c2, c3, c4, L8.rec (motive := fun _ => Value → L8) (fun v0 v1 v2 v3 v4 _ v6 v7 v => ⟨v0, v1, v2, v3, v4, some v, v6, v7⟩) c5 v, c6, c7, h⟩) t v⟩,
  ⟨fun t v => Ev.rec (motive := fun _ => Value → Ev) (fun c0 c1 c2 c3 c4 c5 c6 c7 h v => ⟨c0, c1, c2, c3, c4, L8.rec (motive := fun _ => Value → L8) (fun v0 v1 v2 v3 v4 v5 _ v7 v => ⟨v0, v1, v2, v3, v4, v5, some v, v7⟩) c5 v, c6, c7, h⟩) t v⟩,
  ⟨fun t v => Ev.rec (motive := fun _ => Value → Ev) (fun c0 c1 c2 c3 c4 c5 c6 c7 h v => ⟨c0, c1, c2, c3, c4, L8.rec (motive := fun _ => Value → L8) (fun v0 v1 v2 v3 v4 v5 v6 _ v => ⟨v0, v1, v2, v3, v4, v5, v6, some v⟩) c5 v, c6, c7, h⟩) t v⟩,
  ⟨fun t v => Ev.rec (motive := fun _ => Value → Ev) (fun c0 c1 c2 c3 c4 c5 c6 c7 h v => ⟨c0, c1, c2, c3, c4, c5, L8.rec (motive := fun _ => Value → L8) (fun _ v1 v2 v3 v4 v5 v6 v7 v => ⟨some v, v1, v2, v3, v4, v5, v6, v7⟩) c6 v, c7, h⟩) t v⟩,
  ⟨fun t v => Ev.rec (motive := fun _ => Value → Ev) (fun c0 c1 c2 c3 c4 c5 c6 c7 h v => ⟨c0, c1, c2, c3, c4, c5, L8.rec (motive := fun _ => Value → L8) (fun v0 _ v2 v3 v4 v5 v6 v7 v => ⟨v0, some v, v2, v3, v4, v5, v6, v7⟩) c6 v, c7, h⟩) t v⟩,
  ⟨fun t v => Ev.rec (motive := fun _ => Value → Ev) (fun c0 c1 c2 c3 c4 c5 c6 c7 h v => ⟨c0, c1, c2, c3, c4, c5, L8.rec (motive := fun _ => Value → L8) (fun v0 v1 _ v3 v4 v5 v6 v7 v => ⟨v0, v1, some v, v3, v4, v5, v6, v7⟩) c6 v, c7, h⟩) t v⟩,
  ⟨fun t v => Ev.rec (motive := fun _ => Value → Ev) (fun c0 c1 c2 c3 c4 c5 c6 c7 h v => ⟨c0, c1, c2, c3, c4, c5, L8.rec (motive := fun _ => Value → L8) (fun v0 v1 v2 _ v4 v5 v6 v7 v => ⟨v0, v1, v2, some v, v4, v5, v6, v7⟩) c6 v, c7, h⟩) t v⟩,
  ⟨fun t v => Ev.rec (motive := fun _ => Value → Ev) (fun c0 c1 c2 c3 c4 c5 c6 c7 h v => ⟨c0, c1, c2, c3, c4, c5, L8.rec (motive := fun _ => Value → L8) (fun v0 v1 v2 v3 _ v5 v6 v7 v => ⟨v0, v1, v2, v3, some v, v5, v6, v7⟩) c6 v, c7, h⟩) t v⟩,
  ⟨fun t v => Ev.rec (motive := fun _ => Value → Ev) (fun c0 c1 c2 c3 c4 c5 c6 c7 h v => ⟨c0, c1, c2, c3, c4, c5, L8.rec (motive := fun _ => Value → L8) (fun v0 v1 v2 v3 v4 _ v6 v7 v => ⟨v0, v1, v2, v3, v4, some v, v6, v7⟩) c6 v, c7, h⟩) t v⟩,
  ⟨fun t v => Ev.rec (motive := fun _ => Value → Ev) (fun c0 c1 c2 c3 c4 c5 c6 c7 h v => ⟨c0, c1, c2, c3, c4, c5, L8.rec (motive := fun _ => Value → L8) (fun v0 v1 v2 v3 v4 v5 _ v7 v => ⟨v0, v1, v2, v3, v4, v5, some v, v7⟩) c6 v, c7, h⟩) t v⟩,
  ⟨fun t v => Ev.rec (motive := fun _ => Value → Ev) (fun c0 c1 c2 c3 c4 c5 c6 c7 h v => ⟨c0, c1, c2, c3, c4, c5, L8.rec (motive := fun _ => Value → L8) (fun v0 v1 v2 v3 v4 v5 v6 _ v => ⟨v0, v1, v2, v3, v4, v5, v6, some v⟩) c6 v, c7, h⟩) t v⟩,
  ⟨fun t v => Ev.rec (motive := fun _ => Value → Ev) (fun c0 c1 c2 c3 c4 c5 c6 c7 h v => ⟨c0, c1, c2, c3, c4, c5, c6, L8.rec (motive := fun _ => Value → L8) (fun _ v1 v2 v3 v4 v5 v6 v7 v => ⟨some v, v1, v2, v3, v4, v5, v6, v7⟩) c7 v, h⟩) t v⟩,
  ⟨fun t v => Ev.rec (motive := fun _ => Value → Ev) (fun c0 c1 c2 c3 c4 c5 c6 c7 h v => ⟨c0, c1, c2, c3, c4, c5, c6, L8.rec (motive := fun _ => Value → L8) (fun v0 _ v2 v3 v4 v5 v6 v7 v => ⟨v0, some v, v2, v3, v4, v5, v6, v7⟩) c7 v, h⟩) t v⟩,
  ⟨fun t v => Ev.rec (motive := fun _ => Value → Ev) (fun c0 c1 c2 c3 c4 c5 c6 c7 h v => ⟨c0, c1, c2, c3, c4, c5, c6, L8.rec (motive := fun _ => Value → L8) (fun v0 v1 _ v3 v4 v5 v6 v7 v => ⟨v0, v1, some v, v3, v4, v5, v6, v7⟩) c7 v, h⟩) t v⟩,
  ⟨fun t v => Ev.rec (motive := fun _ => Value → Ev) (fun c0 c1 c2 c3 c4 c5 c6 c7 h v => ⟨c0, c1, c2, c3, c4, c5, c6, L8.rec (motive := fun _ => Value → L8) (fun v0 v1 v2 _ v4 v5 v6 v7 v => ⟨v0, v1, v2, some v, v4, v5, v6, v7⟩) c7 v, h⟩) t v⟩,
  ⟨fun t v => Ev.rec (motive := fun _ => Value → Ev) (fun c0 c1 c2 c3 c4 c5 c6 c7 h v => ⟨c0, c1, c2, c3, c4, c5, c6, L8.rec (motive := fun _ => Value → L8) (fun v0 v1 v2 v3 _ v5 v6 v7 v => ⟨v0, v1, v2, v3, some v, v5, v6, v7⟩) c7 v, h⟩) t v⟩,
  ⟨fun t v => Ev.rec (motive := fun _ => Value → Ev) (fun c0 c1 c2 c3 c4 c5 c6 c7 h v => ⟨c0, c1, c2, c3, c4, c5, c6, L8.rec (motive := fun _ => Value → L8) (fun v0 v1 v2 v3 v4 _ v6 v7 v => ⟨v0, v1, v2, v3, v4, some v, v6, v7⟩) c7 v, h⟩) t v⟩,
  ⟨fun t v => Ev.rec (motive := fun _ => Value → Ev) (fun c0 c1 c2 c3 c4 c5 c6 c7 h v => ⟨c0, c1, c2, c3, c4, c5, c6, L8.rec (motive := fun _ => Value → L8) (fun v0 v1 v2 v3 v4 v5 _ v7 v => ⟨v0, v1, v2, v3, v4, v5, some v, v7⟩) c7 v, h⟩) t v⟩,
  ⟨fun t v => Ev.rec (motive := fun _ => Value → Ev) (fun c0 c1 c2 c3 c4 c5 c6 c7 h v => ⟨c0, c1, c2, c3, c4, c5, c6, L8.rec (motive := fun _ => Value → L8) (fun v0 v1 v2 v3 v4 v5 v6 _ v => ⟨v0, v1, v2, v3, v4, v5, v6, some v⟩) c7 v, h⟩) t v⟩]

noncomputable def gHi (s : Nat) : G := ⟨fun _ t k => Option.rec (motive := fun _ => Ans) none k ((Ev.hi t).get s)⟩
noncomputable def sHi (s : Nat) : S0 := ⟨fun t v => Ev.rec (motive := fun _ => Ev) (fun c0 c1 c2 c3 c4 c5 c6 c7 h => ⟨c0, c1, c2, c3, c4, c5, c6, c7, Tr.set (s + 1) h s (some v)⟩) t⟩
noncomputable def gNo : G := ⟨fun _ _ _ => none⟩
noncomputable def headD {α : Type} (d : α) (l : List α) : α := List.rec (motive := fun _ => α) d (fun a _ _ => a) l
noncomputable def gEnv (s : Nat) : G := Bool.rec (motive := fun _ => G) (gHi (s - 64)) (headD gNo (lDrop gTab s)) (Nat.ble (Nat.succ s) 64)
noncomputable def sEnv0 (s : Nat) : S0 := Bool.rec (motive := fun _ => S0) (sHi (s - 64)) (headD ⟨fun t _ => t⟩ (lDrop sTab s)) (Nat.ble (Nat.succ s) 64)
noncomputable def sOf (x : S0) : S := ⟨S0.rec (motive := fun _ => Ev → Value → Ev) (fun s => s) x, fun kk b st t M v => kk b (v :: st) (S0.rec (motive := fun _ => Ev → Value → Ev) (fun s => s) x t v) M⟩
noncomputable def sEnv (s : Nat) : S := sOf (sEnv0 s)
noncomputable def sSame : S := ⟨fun t _ => t, fun kk b st t M v => kk b (v :: st) t M⟩
noncomputable def lHead (d : Ans) (k : KV) (l : List Value) : Ans := List.rec (motive := fun _ => Ans → KV → Ans) (fun d _ => d) (fun v _ _ _ k => k v) l d k
/-- what the region itself made, by its place from the last one on -/
noncomputable def stAt (n : Nat) : List Value → KV → Ans := Nat.rec (motive := fun _ => List Value → KV → Ans) (fun st k => lHead none k st) (fun _ ih st k => List.rec (motive := fun _ => Ans) none (fun _ r _ => ih r k) st) n
/-- where in the region a temporary was made -/
def spot (s : Nat) : List (Option Nat) → Option Nat
  | [] => none
  | some d :: l => bif Nat.beq d s then some 0 else (spot s l).map Nat.succ
  | none :: l => (spot s l).map Nat.succ
noncomputable def gSt (n : Nat) : G := ⟨fun st _ k => stAt n st k⟩
noncomputable def gSt0 : G := ⟨fun st _ k => List.rec (motive := fun _ => KV → Ans) (fun _ => none) (fun v _ _ k => k v) st k⟩
noncomputable def gSt1 : G := ⟨fun st _ k => List.rec (motive := fun _ => KV → Ans) (fun _ => none) (fun _ r _ k => List.rec (motive := fun _ => KV → Ans) (fun _ => none) (fun v _ _ k => k v) r k) st k⟩
noncomputable def gSt2 : G := ⟨fun st _ k => List.rec (motive := fun _ => KV → Ans) (fun _ => none) (fun _ r _ k => List.rec (motive := fun _ => KV → Ans) (fun _ => none) (fun _ r _ k => List.rec (motive := fun _ => KV → Ans) (fun _ => none) (fun v _ _ k => k v) r k) r k) st k⟩
noncomputable def gSt3 : G := ⟨fun st _ k => List.rec (motive := fun _ => KV → Ans) (fun _ => none) (fun _ r _ k => List.rec (motive := fun _ => KV → Ans) (fun _ => none) (fun _ r _ k => List.rec (motive := fun _ => KV → Ans) (fun _ => none) (fun _ r _ k => List.rec (motive := fun _ => KV → Ans) (fun _ => none) (fun v _ _ k => k v) r k) r k) r k) st k⟩
noncomputable def gStk (n : Nat) : G := Nat.rec (motive := fun _ => G) gSt0 (fun n _ => Nat.rec (motive := fun _ => G) gSt1 (fun m _ => Nat.rec (motive := fun _ => G) gSt2 (fun j _ => Nat.rec (motive := fun _ => G) gSt3 (fun i _ => gSt (Nat.succ (Nat.succ (Nat.succ (Nat.succ i))))) j) m) n) n
noncomputable def zTmp (ds : List (Option Nat)) (s : Nat) : G := Option.rec (motive := fun _ => G) (gEnv s) (fun n => gStk n) (spot s ds)
noncomputable def zOp (ds : List (Option Nat)) (x : Operand) : G := Operand.rec (motive := fun _ => G) (fun s => zTmp ds s) (fun v => Bool.rec (motive := fun _ => G) gNo ⟨fun _ _ k => k v⟩ (plain v))
  (fun _ => gNo) (fun f => ⟨fun _ _ k => k (.func (.func f) #[] #[])⟩) x
/-- a result's place: only what is read elsewhere is written down (K: a row of bits) -/
noncomputable def zDst (K : Nat) (d : Option Nat) : S := Option.rec (motive := fun _ => S) sSame (fun d => Bool.rec (motive := fun _ => S) sSame (sEnv d) (Nat.testBit K d)) d
/-- operands, for what is told slowly -/
def L8.at (l : L8) : Nat → Option Value
  | 0 => l.v0 | 1 => l.v1 | 2 => l.v2 | 3 => l.v3 | 4 => l.v4 | 5 => l.v5 | 6 => l.v6 | 7 => l.v7 | _ => none
def Ev.leaf (t : Ev) : Nat → L8
  | 0 => t.c0 | 1 => t.c1 | 2 => t.c2 | 3 => t.c3 | 4 => t.c4 | 5 => t.c5 | 6 => t.c6 | 7 => t.c7 | _ => .nil
def Ev.get (t : Ev) (s : Nat) : Option Value := bif Nat.ble (s + 1) 64 then (t.leaf (s / 8)).at (s % 8) else t.hi.get (s - 64)
def locGet : List (Option Nat) → List Value → Nat → Option Value
  | some d :: ds, v :: st, s => bif Nat.beq d s then some v else locGet ds st s
  | none :: ds, _ :: st, s => locGet ds st s
  | _, _, _ => none
def evS (ds : List (Option Nat)) (st : List Value) (t : Ev) : Operand → Option Value
  | .tmp s => match spot s ds with
    | some _ => locGet ds st s
    | none => t.get s
  | .const v => bif plain v then some v else none
  | .func f => some (.func (.func f) #[] #[])
  | .global _ => none

/-! ### values -/
/-- a whole number that is not below nought -/
noncomputable def vNat (d : Ans) (f : IntKind → Nat → Ans) (v : Value) : Ans := Value.rec (motive_1 := fun _ => Ans → (IntKind → Nat → Ans) → Ans) (motive_2 := fun _ => Ans → (IntKind → Nat → Ans) → Ans) (motive_3 := fun _ => Ans → (IntKind → Nat → Ans) → Ans)
  (fun _ d _ => d) (fun k n d f => Int.rec (motive := fun _ => IntKind → Ans → (IntKind → Nat → Ans) → Ans) (fun m k _ f => f k m) (fun _ _ d _ => d) n k d f) (fun _ _ d _ => d) (fun _ _ _ d _ => d) (fun _ d _ => d) (fun _ d _ => d) (fun _ _ _ d _ => d) (fun _ d _ => d) (fun _ d _ => d) (fun _ _ _ _ _ d _ => d) (fun d _ => d) (fun _ _ _ d _ => d) (fun d _ => d) (fun _ _ d _ => d) (fun _ _ d _ => d) (fun _ _ d _ => d) (fun d _ => d) (fun _ _ _ _ d _ => d) v d f
noncomputable def vBool (d : Ans) (f : Bool → Ans) (v : Value) : Ans := Value.rec (motive_1 := fun _ => Ans → (Bool → Ans) → Ans) (motive_2 := fun _ => Ans → (Bool → Ans) → Ans) (motive_3 := fun _ => Ans → (Bool → Ans) → Ans)
  (fun b d f => f b) (fun _ _ d _ => d) (fun _ _ d _ => d) (fun _ _ _ d _ => d) (fun _ d _ => d) (fun _ d _ => d) (fun _ _ _ d _ => d) (fun _ d _ => d) (fun _ d _ => d) (fun _ _ _ _ _ d _ => d) (fun d _ => d) (fun _ _ _ d _ => d) (fun d _ => d) (fun _ _ d _ => d) (fun _ _ d _ => d) (fun _ _ d _ => d) (fun d _ => d) (fun _ _ _ _ d _ => d) v d f
noncomputable def vPtr (d : Ans) (f : Nat → Nat → Ans) (v : Value) : Ans := Value.rec (motive_1 := fun _ => Ans → (Nat → Nat → Ans) → Ans) (motive_2 := fun _ => Ans → (Nat → Nat → Ans) → Ans) (motive_3 := fun _ => Ans → (Nat → Nat → Ans) → Ans)
  (fun _ d _ => d) (fun _ _ d _ => d) (fun _ _ d _ => d) (fun _ _ _ d _ => d) (fun _ d _ => d) (fun a d f => Option.rec (motive := fun _ => Ans → (Nat → Nat → Ans) → Ans) (fun  d _ => d) (fun x  d f => Addr.rec (motive := fun _ => Ans → (Nat → Nat → Ans) → Ans) (fun b o sp  d f => Option.rec (motive := fun _ => Nat → Nat → Ans → (Nat → Nat → Ans) → Ans) (fun b o  _ f => f b o) (fun _ _ _  d _ => d) sp b o  d f) x  d f) a  d f) (fun _ _ _ d _ => d) (fun _ d _ => d) (fun _ d _ => d) (fun _ _ _ _ _ d _ => d) (fun d _ => d) (fun _ _ _ d _ => d) (fun d _ => d) (fun _ _ d _ => d) (fun _ _ d _ => d) (fun _ _ d _ => d) (fun d _ => d) (fun _ _ _ _ d _ => d) v d f
/-- a slice that is not nil: its block, how far in, its length, its room -/
noncomputable def vSl (d : Ans) (f : Nat → Nat → Nat → Nat → Ans) (v : Value) : Ans := Value.rec (motive_1 := fun _ => Ans → (Nat → Nat → Nat → Nat → Ans) → Ans) (motive_2 := fun _ => Ans → (Nat → Nat → Nat → Nat → Ans) → Ans) (motive_3 := fun _ => Ans → (Nat → Nat → Nat → Nat → Ans) → Ans)
  (fun _ d _ => d) (fun _ _ d _ => d) (fun _ _ d _ => d) (fun _ _ _ d _ => d) (fun _ d _ => d) (fun _ d _ => d) (fun a n c d f => Option.rec (motive := fun _ => Nat → Nat → Ans → (Nat → Nat → Nat → Nat → Ans) → Ans) (fun _ _ d _ => d) (fun x n c d f => Addr.rec (motive := fun _ => Nat → Nat → Ans → (Nat → Nat → Nat → Nat → Ans) → Ans) (fun b o sp n c d f => Option.rec (motive := fun _ => Nat → Nat → Nat → Nat → Ans → (Nat → Nat → Nat → Nat → Ans) → Ans) (fun b o n c _ f => f b o n c) (fun _ _ _ _ _ d _ => d) sp b o n c d f) x n c d f) a n c d f) (fun _ d _ => d) (fun _ d _ => d) (fun _ _ _ _ _ d _ => d) (fun d _ => d) (fun _ _ _ d _ => d) (fun d _ => d) (fun _ _ d _ => d) (fun _ _ d _ => d) (fun _ _ d _ => d) (fun d _ => d) (fun _ _ _ _ d _ => d) v d f
noncomputable def vLen (d : Ans) (f : Nat → Ans) (v : Value) : Ans := Value.rec (motive_1 := fun _ => Ans → (Nat → Ans) → Ans) (motive_2 := fun _ => Ans → (Nat → Ans) → Ans) (motive_3 := fun _ => Ans → (Nat → Ans) → Ans)
  (fun _ d _ => d) (fun _ _ d _ => d) (fun _ _ d _ => d) (fun _ _ _ d _ => d) (fun _ d _ => d) (fun _ d _ => d) (fun a n c d f => f n) (fun _ d _ => d) (fun _ d _ => d) (fun _ _ _ _ _ d _ => d) (fun d _ => d) (fun _ _ _ d _ => d) (fun d _ => d) (fun _ _ d _ => d) (fun _ _ d _ => d) (fun _ _ d _ => d) (fun d _ => d) (fun _ _ _ _ d _ => d) v d f
noncomputable def vTup (d : Ans) (f : List Value → Ans) (v : Value) : Ans := Value.rec (motive_1 := fun _ => Ans → (List Value → Ans) → Ans) (motive_2 := fun _ => Ans → (List Value → Ans) → Ans) (motive_3 := fun _ => Ans → (List Value → Ans) → Ans)
  (fun _ d _ => d) (fun _ _ d _ => d) (fun _ _ d _ => d) (fun _ _ _ d _ => d) (fun _ d _ => d) (fun _ d _ => d) (fun _ _ _ d _ => d) (fun _ d _ => d) (fun _ d _ => d) (fun _ _ _ _ _ d _ => d) (fun d _ => d) (fun _ _ _ d _ => d) (fun d _ => d) (fun _ _ d _ => d) (fun vs hv d f => f (Array.toList vs)) (fun _ _ d _ => d) (fun d _ => d) (fun _ _ _ _ d _ => d) v d f
noncomputable def vAgg (d : Ans) (f : List Value → Ans) (v : Value) : Ans := Value.rec (motive_1 := fun _ => Ans → (List Value → Ans) → Ans) (motive_2 := fun _ => Ans → (List Value → Ans) → Ans) (motive_3 := fun _ => Ans → (List Value → Ans) → Ans)
  (fun _ d _ => d) (fun _ _ d _ => d) (fun _ _ d _ => d) (fun _ _ _ d _ => d) (fun _ d _ => d) (fun _ d _ => d) (fun _ _ _ d _ => d) (fun _ d _ => d) (fun _ d _ => d) (fun _ _ _ _ _ d _ => d) (fun d _ => d) (fun _ _ _ d _ => d) (fun d _ => d) (fun vs hv d f => f (Array.toList vs)) (fun _ _ d _ => d) (fun _ _ d _ => d) (fun d _ => d) (fun _ _ _ _ d _ => d) v d f
/-- a value of one cell -/
noncomputable def vOne (d k : Ans) (v : Value) : Ans := Value.rec (motive_1 := fun _ => Ans → Ans → Ans) (motive_2 := fun _ => Ans → Ans → Ans) (motive_3 := fun _ => Ans → Ans → Ans)
  (fun _ d k => k) (fun _ _ d k => k) (fun _ _ d k => k) (fun _ _ _ d k => k) (fun _ d k => k) (fun _ d k => k) (fun _ _ _ d k => k) (fun _ d k => k) (fun _ d k => k) (fun _ _ _ _ _ d k => k) (fun  d k => k) (fun _ _ _ d k => k) (fun  d k => k) (fun _ _ d k => d) (fun _ _ d k => d) (fun _ _ d _ => d) (fun d _ => d) (fun _ _ _ _ d _ => d) v d k
/-- a slice, nil or not -/
noncomputable def vSlc (d : Ans) (nil : Unit → Ans) (f : Nat → Nat → Nat → Nat → Ans) (v : Value) : Ans := Value.rec (motive_1 := fun _ => Ans → (Unit → Ans) → (Nat → Nat → Nat → Nat → Ans) → Ans) (motive_2 := fun _ => Ans → (Unit → Ans) → (Nat → Nat → Nat → Nat → Ans) → Ans) (motive_3 := fun _ => Ans → (Unit → Ans) → (Nat → Nat → Nat → Nat → Ans) → Ans)
  (fun _ d _ _ => d) (fun _ _ d _ _ => d) (fun _ _ d _ _ => d) (fun _ _ _ d _ _ => d) (fun _ d _ _ => d) (fun _ d _ _ => d) (fun a n c d g f => Option.rec (motive := fun _ => Nat → Nat → Ans → (Unit → Ans) → (Nat → Nat → Nat → Nat → Ans) → Ans) (fun _ _ _ g _ => g ()) (fun x n c d g f => Addr.rec (motive := fun _ => Nat → Nat → Ans → (Unit → Ans) → (Nat → Nat → Nat → Nat → Ans) → Ans) (fun b o sp n c d g f => Option.rec (motive := fun _ => Nat → Nat → Nat → Nat → Ans → (Unit → Ans) → (Nat → Nat → Nat → Nat → Ans) → Ans) (fun b o n c _ _ f => f b o n c) (fun _ _ _ _ _ d _ _ => d) sp b o n c d g f) x n c d g f) a n c d g f) (fun _ d _ _ => d) (fun _ d _ _ => d) (fun _ _ _ _ _ d _ _ => d) (fun  d _ _ => d) (fun _ _ _ d _ _ => d) (fun  d _ _ => d) (fun _ _ d _ _ => d) (fun _ _ d _ _ => d) (fun _ _ d _ _ => d) (fun d _ _ => d) (fun _ _ _ _ d _ _ => d) v d nil f
noncomputable def one1 (v : Value) : Bool := Value.rec (motive_1 := fun _ => Bool) (motive_2 := fun _ => Bool) (motive_3 := fun _ => Bool)
  (fun _ => true) (fun _ _ => true) (fun _ _ => true) (fun _ _ _ => true) (fun _ => true) (fun _ => true) (fun _ _ _ => true) (fun _ => true) (fun _ => true) (fun _ _ _ _ _ => true) true (fun _ _ _ => true) true (fun _ _ => false) (fun _ _ => false) (fun _ _ => false) false (fun _ _ _ _ => false) v

noncomputable def kc (k : IntKind) : Nat := IntKind.rec (motive := fun _ => Nat) 0 1 2 3 4 5 6 7 k
noncomputable def kmax (k : IntKind) : Nat := IntKind.rec (motive := fun _ => Nat) 127 32767 2147483647 9223372036854775807 255 65535 4294967295 18446744073709551615 k
noncomputable def oK (d : Ans) (k : KV) (o : Option Value) : Ans := Option.rec (motive := fun _ => Ans) d k o
/-- two naturals of a kind -/
noncomputable def zNN (slow : Ans) (f : IntKind → Nat → Nat → Ans) (a b : Value) : Ans := vNat slow (fun ka m => vNat slow (fun kb n => Bool.rec (motive := fun _ => Ans) slow (f ka m n) (Nat.beq (kc ka) (kc kb))) b) a
/-- two naturals of any kinds -/
noncomputable def zN2 (slow : Ans) (f : IntKind → Nat → Nat → Ans) (a b : Value) : Ans := vNat slow (fun ka m => vNat slow (fun _ n => f ka m n) b) a
noncomputable def zFit (slow : Ans) (k : KV) (ka : IntKind) (n : Nat) : Ans := Bool.rec (motive := fun _ => Ans) slow (k (.int ka (.ofNat n))) (Nat.ble n (kmax ka))
abbrev Bin := Value → Value → KV → Ans
structure BB where
  run : Bin
noncomputable def zGen2 (f : Value → Value → Option Value) : Bin := fun a b k => oK none k (f a b)
noncomputable def zBin (P : Program) (op : BinOp) (t : TypeId) : BB := BinOp.rec (motive := fun _ => BB)
  ⟨fun a b k => zNN (zGen2 (binV P .add t) a b k) (fun ka m n => zFit (zGen2 (binV P .add t) a b k) k ka (Nat.add m n)) a b⟩
  ⟨fun a b k => zNN (zGen2 (binV P .sub t) a b k) (fun ka m n => Bool.rec (motive := fun _ => Ans) (zGen2 (binV P .sub t) a b k) (zFit (zGen2 (binV P .sub t) a b k) k ka (Nat.sub m n)) (Nat.ble n m)) a b⟩
  ⟨fun a b k => zNN (zGen2 (binV P .mul t) a b k) (fun ka m n => zFit (zGen2 (binV P .mul t) a b k) k ka (Nat.mul m n)) a b⟩
  ⟨fun a b k => zNN (zGen2 (binV P .quo t) a b k) (fun ka m n => Bool.rec (motive := fun _ => Ans) (zFit (zGen2 (binV P .quo t) a b k) k ka (Nat.div m n)) (zGen2 (binV P .quo t) a b k) (Nat.beq n 0)) a b⟩
  ⟨fun a b k => zNN (zGen2 (binV P .rem t) a b k) (fun ka m n => Bool.rec (motive := fun _ => Ans) (k (.int ka (.ofNat (Nat.mod m n)))) (zGen2 (binV P .rem t) a b k) (Nat.beq n 0)) a b⟩
  ⟨fun a b k => zNN (zGen2 (binV P .and t) a b k) (fun ka m n => Bool.rec (motive := fun _ => Ans) (zGen2 (binV P .and t) a b k) (Bool.rec (motive := fun _ => Ans) (zGen2 (binV P .and t) a b k) (zFit (zGen2 (binV P .and t) a b k) k ka (Nat.land m n)) (Nat.ble n (kmax ka))) (Nat.ble m (kmax ka))) a b⟩
  ⟨fun a b k => zNN (zGen2 (binV P .or t) a b k) (fun ka m n => Bool.rec (motive := fun _ => Ans) (zGen2 (binV P .or t) a b k) (Bool.rec (motive := fun _ => Ans) (zGen2 (binV P .or t) a b k) (zFit (zGen2 (binV P .or t) a b k) k ka (Nat.lor m n)) (Nat.ble n (kmax ka))) (Nat.ble m (kmax ka))) a b⟩
  ⟨fun a b k => zNN (zGen2 (binV P .xor t) a b k) (fun ka m n => Bool.rec (motive := fun _ => Ans) (zGen2 (binV P .xor t) a b k) (Bool.rec (motive := fun _ => Ans) (zGen2 (binV P .xor t) a b k) (zFit (zGen2 (binV P .xor t) a b k) k ka (Nat.xor m n)) (Nat.ble n (kmax ka))) (Nat.ble m (kmax ka))) a b⟩
  ⟨fun a b k => zN2 (zGen2 (binV P .shl t) a b k) (fun ka m n => Bool.rec (motive := fun _ => Ans) (zGen2 (binV P .shl t) a b k) (zFit (zGen2 (binV P .shl t) a b k) k ka (Nat.mul m (Nat.pow 2 n))) (Nat.ble n 7)) a b⟩
  ⟨fun a b k => zN2 (zGen2 (binV P .shr t) a b k) (fun ka m n => Bool.rec (motive := fun _ => Ans) (zGen2 (binV P .shr t) a b k) (k (.int ka (.ofNat (Nat.div m (Nat.pow 2 n))))) (Nat.ble n 7)) a b⟩
  ⟨fun a b k => zGen2 (binV P .andNot t) a b k⟩
  ⟨fun a b k => zNN (zGen2 (binV P .eql t) a b k) (fun ka m n => k (.bool (Nat.beq m n))) a b⟩
  ⟨fun a b k => zNN (zGen2 (binV P .neq t) a b k) (fun ka m n => k (.bool (Bool.rec (motive := fun _ => Bool) true false (Nat.beq m n)))) a b⟩
  ⟨fun a b k => zNN (zGen2 (binV P .lss t) a b k) (fun ka m n => k (.bool (Nat.ble (Nat.succ m) n))) a b⟩
  ⟨fun a b k => zNN (zGen2 (binV P .leq t) a b k) (fun ka m n => k (.bool (Nat.ble m n))) a b⟩
  ⟨fun a b k => zNN (zGen2 (binV P .gtr t) a b k) (fun ka m n => k (.bool (Nat.ble (Nat.succ n) m))) a b⟩
  ⟨fun a b k => zNN (zGen2 (binV P .geq t) a b k) (fun ka m n => k (.bool (Nat.ble n m))) a b⟩
  op

/-! ### memory -/
noncomputable def tGet (t : Tri) : Nat → Option Blk := Tri.rec (motive := fun _ => Nat → Option Blk) (fun _ => none)
  (fun _ v _ l r k => Bool.rec (motive := fun _ => Option Blk) (Bool.rec (motive := fun _ => Option Blk) (r (Nat.sub (Nat.div k 2) 1)) (l (Nat.div k 2)) (Nat.beq (Nat.mod k 2) 1)) v (Nat.beq k 0)) t
noncomputable def tSet (f : Nat) : Tri → Nat → Option Blk → Tri := Nat.rec (motive := fun _ => Tri → Nat → Option Blk → Tri) (fun t _ _ => t)
  (fun _ ih t k b => Tri.rec (motive := fun _ => Tri)
    (Bool.rec (motive := fun _ => Tri) (Bool.rec (motive := fun _ => Tri) (.node .nil none (ih .nil (Nat.sub (Nat.div k 2) 1) b)) (.node (ih .nil (Nat.div k 2) b) none .nil) (Nat.beq (Nat.mod k 2) 1)) (.node .nil b .nil) (Nat.beq k 0))
    (fun l v r _ _ => Bool.rec (motive := fun _ => Tri) (Bool.rec (motive := fun _ => Tri) (.node l v (ih r (Nat.sub (Nat.div k 2) 1) b)) (.node (ih l (Nat.div k 2) b) v r) (Nat.beq (Nat.mod k 2) 1)) (.node l b r) (Nat.beq k 0)) t) f
noncomputable def mPut (M : Mem) (i : Nat) (b : Blk) : Mem := Mem.rec (motive := fun _ => Nat → Blk → Mem) (fun n t i b => ⟨n, tSet (Nat.succ i) t i (some b)⟩) M i b
noncomputable def mBump (M : Mem) (k : Nat) : Mem := Mem.rec (motive := fun _ => Mem) (fun n t => ⟨Nat.add n k, t⟩) M
noncomputable def lSet (v : Value) (l : List Value) : Nat → List Value := List.rec (motive := fun _ => Nat → List Value) (fun _ => []) (fun c l ih n => Nat.rec (motive := fun _ => List Value) (v :: l) (fun m _ => c :: ih m) n) l
/-- the cells of a block of rows, its type, whether it may be written -/
noncomputable def zRow (d : Ans) (f : List Value → TypeId → Bool → Ans) (M : Mem) (b : Nat) : Ans := Mem.rec (motive := fun _ => Nat → Ans → (List Value → TypeId → Bool → Ans) → Ans) (fun _ t b d f => Option.rec (motive := fun _ => Ans → (List Value → TypeId → Bool → Ans) → Ans) (fun d _ => d)
  (fun x d f => Blk.rec (motive := fun _ => Ans → (List Value → TypeId → Bool → Ans) → Ans) (fun cs e rw d f => Bool.rec (motive := fun _ => Ans) (f cs e rw) d (Nat.ble mapTag e)) x d f) (tGet t b) d f) M b d f
/-! ### the program's tables, by what stands behind those ahead -/
noncomputable def infoZ (P : Program) (t : TypeId) : Option TypeInfo := List.rec (motive := fun _ => Option TypeInfo) (P.info? t) (fun a _ _ => some a) (lDrop P.types.toList t)
noncomputable def underZ (P : Program) (t : TypeId) : Option TypeDesc := match infoZ P t with
  | some { desc := .named _ u, .. } => (infoZ P u).map (·.desc)
  | some i => some i.desc
  | none => none
noncomputable def zeroZ (P : Program) (t : TypeId) : Option (Array Value) := match infoZ P t with
  | some i => match i.zero with
    | some z => bif plains z.cells then some z.cells else none
    | none => none
  | none => none
noncomputable def kindZ (P : Program) (o : Oper) : Kind := match o.op with
  | .alloc _ | .box _ _ | .buildSlice _ _ _ | .makeSlice _ _ _ | .makeMap _ _ => .alloc
  | .load _ _ => .read
  | .lookup _ _ _ _ => .read
  | .entry _ => .read
  | .mapUpdate _ _ _ _ => .eff
  | .range _ _ => .eff
  | .next _ _ => .eff
  | .slice t _ _ _ _ => match underZ P t with
    | some (.slice _) => .read
    | _ => .pure
  | .convert src dst _ => match underZ P src, underZ P dst with
    | some (.slice _), _ => .read
    | some .string, some (.slice _) => .alloc
    | _, _ => .pure
  | .store _ _ _ => .eff
  | .call c => match c.callee with
    | .builtin b => match b with
      | .min | .max | .cap => .pure
      | .len => match c.argTypes.toList with
        | [t] => match underZ P t with
          | some (.map _ _) => .read
          | _ => .pure
        | _ => .pure
      | _ => .eff
    | _ => .call
  | _ => .pure

noncomputable def nAlZ (P : Program) (l : List Oper) : Nat := List.rec (motive := fun _ => Nat) 0 (fun o _ ih => Kind.rec (motive := fun _ => Nat) ih ih (Nat.succ ih) ih ih (kindZ P o)) l
structure LD where
  run : Mem → Value → KV → Ans
/-- one cell is read -/
noncomputable def zLoad1 (slow : Mem → Value → KV → Ans) : LD := ⟨fun M x k => vPtr (slow M x k) (fun b o => zRow (slow M x k) (fun cs _ _ => lHead (slow M x k) k (lDrop cs o)) M b) x⟩
noncomputable def zLoadG (P : Program) (t : TypeId) : Mem → Value → KV → Ans := fun M x k => oK none k (loadV P M.get t x)
noncomputable def zLoad (P : Program) (t : TypeId) : LD := match underZ P t, infoZ P t with
  | some d, some _ => bif aggT d then ⟨zLoadG P t⟩ else zLoad1 (zLoadG P t)
  | _, _ => ⟨zLoadG P t⟩

/-! ### operations -/
structure CC where
  call : FuncId → List Value → Mem → Ans
  seq : FuncId → Array Value → Mem → Option Mem
  dfc : FuncId → Array Value → Mem → Option Mem
abbrev Run := CC → KT → Nat → List Value → Ev → Mem → Ans
structure C where
  run : Run
/-- a value is made -/
noncomputable def zPut (s : S) (kk : KT) (b : Nat) (st : List Value) (t : Ev) (M : Mem) (v : Value) : Ans := S.rec (motive := fun _ => KT → Nat → List Value → Ev → Mem → Value → Ans) (fun _ p => p) s kk b st t M v
noncomputable def z1 (g : G) (s : S) : C := ⟨fun _ kk b st t M => G.rec (motive := fun _ => List Value → Ev → KV → Ans) (fun g => g) g st t (zPut s kk b st t M)⟩
structure UU where
  run : Value → KV → Ans
noncomputable def zU (g : G) (f : UU) (s : S) : C := ⟨fun _ kk b st t M => G.rec (motive := fun _ => List Value → Ev → KV → Ans) (fun g => g) g st t fun x => UU.rec (motive := fun _ => Value → KV → Ans) (fun f => f) f x (zPut s kk b st t M)⟩
noncomputable def zB (g h : G) (f : BB) (s : S) : C := ⟨fun _ kk b st t M => G.rec (motive := fun _ => List Value → Ev → KV → Ans) (fun g => g) g st t fun x => G.rec (motive := fun _ => List Value → Ev → KV → Ans) (fun g => g) h st t fun y => BB.rec (motive := fun _ => Bin) (fun f => f) f x y (zPut s kk b st t M)⟩
noncomputable def zPick (g h i : G) (s : S) : C := ⟨fun _ kk b st t M => G.rec (motive := fun _ => List Value → Ev → KV → Ans) (fun g => g) g st t fun x => G.rec (motive := fun _ => List Value → Ev → KV → Ans) (fun g => g) h st t fun y => G.rec (motive := fun _ => List Value → Ev → KV → Ans) (fun g => g) i st t fun z => vBool none (fun c => Bool.rec (motive := fun _ => Ans) (zPut s kk b st t M z) (zPut s kk b st t M y) c) x⟩
noncomputable def zM (g : G) (f : LD) (s : S) : C := ⟨fun _ kk b st t M => G.rec (motive := fun _ => List Value → Ev → KV → Ans) (fun g => g) g st t fun x => LD.rec (motive := fun _ => Mem → Value → KV → Ans) (fun f => f) f M x (zPut s kk b st t M)⟩
noncomputable def zPureG (P : Program) (ds : List (Option Nat)) (o : Oper) (s : S) : C := ⟨fun _ kk b st t M => oK none (zPut s kk b st t M) (pureV P (evS ds st t) o)⟩
noncomputable def zReadG (P : Program) (ds : List (Option Nat)) (o : Oper) (s : S) : C := ⟨fun _ kk b st t M => oK none (zPut s kk b st t M) (readV P (evS ds st t) M.get o)⟩
noncomputable def zAllocG (P : Program) (ds : List (Option Nat)) (o : Oper) (s : S) : C := ⟨fun _ kk b st t M =>
  Option.rec (motive := fun _ => Ans) none (fun p => Prod.rec (motive := fun _ => Ans) (fun bl mk => zPut s kk (Nat.succ b) st t (mPut M b bl) (mk b)) p) (allocA P (evS ds st t) o.op)⟩
noncomputable def ansK (f : Value → Mem → Ans) (a : Ans) : Ans := Option.rec (motive := fun _ => Ans) none (fun p => Prod.rec (motive := fun _ => Ans) f p) a
noncomputable def zEffG (P : Program) (ds : List (Option Nat)) (o : Oper) (s : S) : C := ⟨fun _ kk b st t M => ansK (fun v M' => zPut s kk b st t M' v) (effV P (evS ds st t) M o)⟩
noncomputable def zCallG (P : Program) (ext : ExtF) (ds : List (Option Nat)) (o : Oper) (s : S) : C := ⟨fun c kk b st t M =>
  Option.rec (motive := fun _ => Ans) (oK none (zPut s kk b st t M) (ext (evS ds st t) M o)) (fun p => Prod.rec (motive := fun _ => Ans) (fun f args => ansK (fun v M' => zPut s kk b st t M' v) (c.call f args.toList M)) p) (callOf P (evS ds st t) o)⟩
noncomputable def zGeneric (P : Program) (ext : ExtF) (ds : List (Option Nat)) (o : Oper) (s : S) : C := Kind.rec (motive := fun _ => C) (zPureG P ds o s) (zReadG P ds o s) (zAllocG P ds o s) (zEffG P ds o s) (zCallG P ext ds o s) (kindZ P o)

noncomputable def zNil : UU := ⟨fun x k => vPtr (oK none k (match x with | .pointer (some a) => some (.pointer (some a)) | _ => none)) (fun _ _ => k x) x⟩
noncomputable def zConvG (P : Program) (src dst : TypeId) : Value → KV → Ans := fun x k => oK none k (convV P src dst x)
noncomputable def zConvI (P : Program) (src dst : TypeId) (kd : IntKind) : UU := ⟨fun x k => vNat (zConvG P src dst x k) (fun _ m => zFit (zConvG P src dst x k) k kd m) x⟩
noncomputable def zOff (n : Nat) : UU := ⟨fun x k => vPtr none (fun b o => k (.pointer (some ⟨b, Nat.add o n, none⟩))) x⟩
noncomputable def zIdxG (P : Program) (t : TypeId) : Bin := fun x y k => oK none k (indexAddrV P t x y)
/-- an element of a slice -/
noncomputable def zIdxS (slow : Bin) (sz : Nat) : BB := ⟨fun x y k => vSl (slow x y k) (fun b o n _ => vNat (slow x y k) (fun _ i =>
  Bool.rec (motive := fun _ => Ans) (slow x y k) (k (.pointer (some ⟨b, Nat.add o (Nat.mul i sz), none⟩))) (Nat.ble (Nat.succ i) n)) y) x⟩
noncomputable def zIdxA (slow : Bin) (n sz : Nat) : BB := ⟨fun x y k => vPtr (slow x y k) (fun b o => vNat (slow x y k) (fun _ i =>
  Bool.rec (motive := fun _ => Ans) (slow x y k) (k (.pointer (some ⟨b, Nat.add o (Nat.mul i sz), none⟩))) (Nat.ble (Nat.succ i) n)) y) x⟩
noncomputable def zTupAt (i : Nat) : UU := ⟨fun x k => vTup none (fun l => lHead none k (lDrop l i)) x⟩
noncomputable def zLenS : UU := ⟨fun x k => vLen none (fun n => k (.int .i64 (.ofNat n))) x⟩

/-- a store of one cell -/
noncomputable def zStore1 (slow : C) (g h : G) (s : S) : C := ⟨fun c kk b st t M => G.rec (motive := fun _ => List Value → Ev → KV → Ans) (fun g => g) g st t fun x => G.rec (motive := fun _ => List Value → Ev → KV → Ans) (fun g => g) h st t fun v => vOne (C.run slow c kk b st t M) (vPtr (C.run slow c kk b st t M) (fun i o => zRow (C.run slow c kk b st t M) (fun cs e rw =>
  Bool.rec (motive := fun _ => Ans) none (lHead (C.run slow c kk b st t M) (fun _ => zPut s kk b st t (mPut M i ⟨lSet v cs o, e, true⟩) undef) (lDrop cs o)) rw) M i) x) v⟩
noncomputable def zStore (P : Program) (t : TypeId) (slow : C) (g h : G) (s : S) : C := match infoZ P t with
  | some i => bif Nat.beq i.size 1 then zStore1 slow g h s else slow
  | none => slow
/-- a variable -/
noncomputable def zBox1 (slow : C) (ty : TypeId) (g : G) (s : S) : C := ⟨fun c kk b st t M => G.rec (motive := fun _ => List Value → Ev → KV → Ans) (fun g => g) g st t fun v => vOne (C.run slow c kk b st t M) (zPut s kk (Nat.succ b) st t (mPut M b ⟨[v], ty, true⟩) (.pointer (some ⟨b, 0, none⟩))) v⟩

/-- operands, one by one -/
structure GS where
  run : List Value → Ev → (List Value → Ans) → Ans
noncomputable def gsCons (g : G) (r : GS) : GS := ⟨fun st t k => G.rec (motive := fun _ => List Value → Ev → KV → Ans) (fun g => g) g st t fun v => GS.rec (motive := fun _ => List Value → Ev → (List Value → Ans) → Ans) (fun r => r) r st t fun l => k (v :: l)⟩
noncomputable def zOps (ds : List (Option Nat)) (l : List Operand) : GS := List.rec (motive := fun _ => GS) ⟨fun _ _ k => k []⟩ (fun x _ ih => gsCons (zOp ds x) ih) l
/-- a call of a function that the code names -/
noncomputable def zCall1 (f : FuncId) (a : GS) (s : S) : C := ⟨fun c kk b st t M => GS.rec (motive := fun _ => List Value → Ev → (List Value → Ans) → Ans) (fun r => r) a st t fun l => ansK (fun v M' => zPut s kk b st t M' v) (CC.call c f l M)⟩

/-! ### rows that are made -/
noncomputable def lApp (a b : List Value) : List Value := List.rec (motive := fun _ => List Value) b (fun x _ ih => x :: ih) a
noncomputable def lTake (n : Nat) : List Value → List Value := Nat.rec (motive := fun _ => List Value → List Value) (fun _ => []) (fun _ ih l => List.rec (motive := fun _ => List Value) [] (fun a l _ => a :: ih l) l) n
noncomputable def lNil (l : List Value) : Bool := List.rec (motive := fun _ => Bool) true (fun _ _ _ => false) l
noncomputable def lRep (v : Value) (n : Nat) : List Value := Nat.rec (motive := fun _ => List Value) [] (fun _ ih => v :: ih) n
noncomputable def lOnes (l : List Value) : Bool := List.rec (motive := fun _ => Bool) true (fun v _ ih => Bool.rec (motive := fun _ => Bool) false ih (one1 v)) l
noncomputable def contK (slow : Ans) (K : Nat → List Value → Ans) (n m : Nat) (l : List Value) : Ans :=
  Bool.rec (motive := fun _ => Ans) (Bool.rec (motive := fun _ => Ans) (K n (lTake m l)) (K n l) (lNil (lDrop l m))) slow (lNil (lDrop l (Nat.sub m 1)))
/-- what a slice holds -/
noncomputable def zCont (slow : Ans) (K : Nat → List Value → Ans) (sz : Nat) (M : Mem) (x : Value) : Ans := vSlc slow (fun _ => K 0 []) (fun b o n _ =>
  Bool.rec (motive := fun _ => Ans) (zRow slow (fun cs _ _ => contK slow K n (Nat.mul n sz) (lDrop cs o)) M b) (K 0 []) (Nat.beq n 0)) x
noncomputable def mDel (M : Mem) (i : Nat) : Mem := Mem.rec (motive := fun _ => Mem) (fun n t => ⟨n, tSet (Nat.succ i) t i none⟩) M
noncomputable def zGrow (s : S) (kk : KT) (bk : Nat) (st : List Value) (t : Ev) (M : Mem) (e : TypeId) (cells : List Value) (n : Nat) : Ans :=
  Mem.rec (motive := fun _ => Ans) (fun nx tr => zPut s kk bk st t ⟨Nat.succ nx, tSet (Nat.succ nx) tr nx (some ⟨cells, e, true⟩)⟩ (.slice (some ⟨nx, 0, none⟩) n unk)) M
noncomputable def zApp2 (slow : Ans) (s : S) (kk : KT) (bk : Nat) (st : List Value) (t : Ev) (M : Mem) (e : TypeId) (bytes : Nat) (x : Value) (k : Nat) (olds : List Value) (n : Nat) (news : List Value) : Ans :=
  Bool.rec (motive := fun _ => Ans) (Bool.rec (motive := fun _ => Ans) slow
    (vSlc slow (fun _ => zGrow s kk bk st t M e (lApp olds news) (Nat.add k n)) (fun b _ k' c => Bool.rec (motive := fun _ => Ans) slow (Bool.rec (motive := fun _ => Ans) slow
        (Bool.rec (motive := fun _ => Ans)
          (zRow slow (fun _ e' rw => Bool.rec (motive := fun _ => Ans) slow (Bool.rec (motive := fun _ => Ans) slow (zGrow s kk bk st t (mDel M b) e (lApp olds news) (Nat.add k n)) (Nat.beq e' e)) rw) M b)
          (zGrow s kk bk st t M e (lApp olds news) (Nat.add k n))
          (Bool.rec (motive := fun _ => Bool) (Nat.ble (Nat.succ c) (Nat.add k n)) false (Nat.beq c unk)))
        (lOnes news)) (Nat.beq k k')) x)
    (Nat.ble (Nat.mul (Nat.add k n) bytes) 140737488355328)) (zPut s kk bk st t M x) (Nat.beq n 0)
noncomputable def zApp1 (slow : C) (g h : G) (s : S) (e : TypeId) (sz bytes : Nat) : C := ⟨fun c kk b st t M => G.rec (motive := fun _ => List Value → Ev → KV → Ans) (fun g => g) g st t fun x => G.rec (motive := fun _ => List Value → Ev → KV → Ans) (fun g => g) h st t fun y =>
  zCont (C.run slow c kk b st t M) (fun k olds => zCont (C.run slow c kk b st t M) (fun n news => zApp2 (C.run slow c kk b st t M) s kk b st t M e bytes x k olds n news) sz M y) sz M x⟩
noncomputable def zAppend (P : Program) (ds : List (Option Nat)) (slow : C) (p q : Operand) (t tx : TypeId) (s : S) : C := match underZ P t, underZ P tx with
  | some (.slice e), some d => match infoZ P e, zeroZ P e with
    | some i, some z => bif isObj e || isInt d || Nat.beq i.bytes 0 || !(Nat.beq z.size i.size) then slow else zApp1 slow (zOp ds p) (zOp ds q) s e i.size i.bytes
    | _, _ => slow
  | _, _ => slow
noncomputable def zBuild1 (slow : C) (g : GS) (s : S) (e : TypeId) (n : Nat) : C := ⟨fun c kk b st t M => GS.rec (motive := fun _ => List Value → Ev → (List Value → Ans) → Ans) (fun r => r) g st t fun vs =>
  Bool.rec (motive := fun _ => Ans) (C.run slow c kk b st t M) (zPut s kk (Nat.succ b) st t (mPut M b ⟨vs, e, true⟩) (.slice (some ⟨b, 0, none⟩) n n)) (lOnes vs)⟩
def inOrder (j : Nat) : List (Nat × Operand) → Bool
  | [] => true
  | (i, _) :: l => Nat.beq i j && inOrder (j + 1) l
noncomputable def zBuildS (P : Program) (ds : List (Option Nat)) (slow : C) (t : TypeId) (len : Nat) (parts : List (Nat × Operand)) (s : S) : C := match underZ P t with
  | some (.slice e) => match infoZ P e, zeroZ P e with
    | some i, some z => bif Nat.beq i.size 1 && Nat.ble len 16777216 && Nat.beq parts.length len && inOrder 0 parts && plains z && !(Nat.beq z.size 0) && !(isObj e) then zBuild1 slow (zOps ds (parts.map (·.2))) s e len else slow
    | _, _ => slow
  | _ => slow
noncomputable def zMake1 (slow : C) (g h : G) (s : S) (e : TypeId) (z : Value) (bytes : Nat) : C := ⟨fun c kk b st t M => G.rec (motive := fun _ => List Value → Ev → KV → Ans) (fun g => g) g st t fun x => G.rec (motive := fun _ => List Value → Ev → KV → Ans) (fun g => g) h st t fun y =>
  vNat (C.run slow c kk b st t M) (fun _ l => vNat (C.run slow c kk b st t M) (fun _ n =>
    Bool.rec (motive := fun _ => Ans) (C.run slow c kk b st t M) (Bool.rec (motive := fun _ => Ans) (C.run slow c kk b st t M) (Bool.rec (motive := fun _ => Ans) (C.run slow c kk b st t M)
      (zPut s kk (Nat.succ b) st t (mPut M b ⟨lRep z n, e, true⟩) (.slice (some ⟨b, 0, none⟩) l n))
      (Nat.ble (Nat.mul bytes n) 281474976710656)) (Nat.ble n 281474976710656)) (Nat.ble l n)) y) x⟩
noncomputable def zMakeS (P : Program) (ds : List (Option Nat)) (slow : C) (t : TypeId) (l n : Operand) (s : S) : C := match underZ P t with
  | some (.slice e) => match infoZ P e, zeroZ P e with
    | some i, some z => match z.toList with
      | [v] => bif Nat.beq i.size 1 && plains z && !(isObj e) then zMake1 slow (zOp ds l) (zOp ds n) s e v i.bytes else slow
      | _ => slow
    | _, _ => slow
  | _ => slow

noncomputable def zBuiltin (P : Program) (ds : List (Option Nat)) (b : Builtin) (slow : C) (c : Call) (s : S) : C := match b, c.args.toList, c.argTypes.toList with
  | .len, [x], [t] => match underZ P t with
    | some (.slice _) => zU (zOp ds x) zLenS s
    | _ => slow
  | .append, [p, q], [t, tx] => zAppend P ds slow p q t tx s
  | _, _, _ => slow
/-- a function of the program: by what stands behind those ahead of it -/
noncomputable def funZ (P : Program) (f : Nat) : Option Func := List.rec (motive := fun _ => Option Func) none (fun a _ _ => some a) (lDrop P.funcs.toList f)
noncomputable def callableZ (P : Program) (f : FuncId) : Bool := match funZ P f with
  | some fn => fn.body.isSome && !(fn.name == "runtime.NumGoroutine")
  | none => false
noncomputable def zCallee (P : Program) (ds : List (Option Nat)) (slow : C) (c : Call) (s : S) : C := match c.callee with
  | .value (.func f) => bif callableZ P f then zCall1 f (zOps ds c.args.toList) s else slow
  | .builtin b => zBuiltin P ds b slow c s
  | _ => slow
noncomputable def zFieldAddr (P : Program) (ds : List (Option Nat)) (slow : C) (t : TypeId) (x : Operand) (f : Nat) (s : S) : C := match underZ P t with
  | some (.struct fields) => match fields[f]? with
    | some fl => match infoZ P fl.type with
      | some i => bif Nat.beq i.size 0 then slow else zU (zOp ds x) (zOff fl.offset) s
      | none => slow
    | none => slow
  | _ => slow
noncomputable def zIndexAddr (P : Program) (ds : List (Option Nat)) (slow : C) (t : TypeId) (x i : Operand) (s : S) : C := match underZ P t with
  | some (.slice e) => match infoZ P e with
    | some inf => zB (zOp ds x) (zOp ds i) (zIdxS (zIdxG P t) inf.size) s
    | none => slow
  | some (.array n e) => match infoZ P e with
    | some inf => zB (zOp ds x) (zOp ds i) (zIdxA (zIdxG P t) n inf.size) s
    | none => slow
  | _ => slow
noncomputable def zConv (P : Program) (ds : List (Option Nat)) (slow : C) (src dst : TypeId) (x : Operand) (s : S) : C := match underZ P src, underZ P dst with
  | some (.int _), some (.int k) => zU (zOp ds x) (zConvI P src dst k) s
  | _, _ => slow
/-- an operation that has no guard -/
noncomputable def zOpen (P : Program) (ext : ExtF) (ds : List (Option Nat)) (o : Oper) (s : S) : C := match o.op with
  | .move x => z1 (zOp ds x) s
  | .assign x => z1 (zOp ds x) s
  | .pick c a b => zPick (zOp ds c) (zOp ds a) (zOp ds b) s
  | .nilCheck x => zU (zOp ds x) zNil s
  | .binOp op t x y _ => zB (zOp ds x) (zOp ds y) (zBin P op t) s
  | .convert src dst x => zConv P ds (zGeneric P ext ds o s) src dst x s
  | .fieldAddr t x f => zFieldAddr P ds (zGeneric P ext ds o s) t x f s
  | .indexAddr t x i => zIndexAddr P ds (zGeneric P ext ds o s) t x i s
  | .extract x i => zU (zOp ds x) (zTupAt i) s
  | .load t x => zM (zOp ds x) (zLoad P t) s
  | .store t x y => zStore P t (zGeneric P ext ds o s) (zOp ds x) (zOp ds y) s
  | .box t x => bif isObj t then zGeneric P ext ds o s else zBox1 (zGeneric P ext ds o s) t (zOp ds x) s
  | .call c => zCallee P ds (zGeneric P ext ds o s) c s
  | .buildSlice t len parts => zBuildS P ds (zGeneric P ext ds o s) t len parts.toList s
  | .makeSlice t l n => zMakeS P ds (zGeneric P ext ds o s) t l n s
  | _ => zGeneric P ext ds o s
noncomputable def zSkip (al : Bool) (s : S) : C := ⟨fun _ kk b st t M => Bool.rec (motive := fun _ => Ans) (zPut s kk b st t M undef) (zPut s kk (Nat.succ b) st t M undef) al⟩
noncomputable def isAl (P : Program) (o : Oper) : Bool := match kindZ P o with
  | .alloc => true
  | _ => false
noncomputable def wantS (ops : Array Oper) (ev : Operand → Option Value) (o : Oper) : Option Bool := match o.guard with
  | none => some true
  | some (j, want) => match (ops[j]?).bind (·.dst) with
    | none => some false
    | some t => match ev (.tmp t) with
      | some (.bool b) => some (b == want)
      | some (.tuple _) => some false
      | _ => none
noncomputable def wantK (none_ yes no : Ans) (w : Option Bool) : Ans := Option.rec (motive := fun _ => Ans) none_ (fun b => Bool.rec (motive := fun _ => Ans) no yes b) w
noncomputable def zGuard (ops : Array Oper) (ds : List (Option Nat)) (o : Oper) (f g : C) : C := ⟨fun c kk b st t M => wantK none (C.run f c kk b st t M) (C.run g c kk b st t M) (wantS ops (evS ds st t) o)⟩
noncomputable def zNo : C := ⟨fun _ _ _ _ _ _ => none⟩
/-- an operation -/
noncomputable def zOne (P : Program) (ext : ExtF) (ops : Array Oper) (k K : Nat) (ds : List (Option Nat)) (o : Oper) : C := bif dstLt k o.dst then match o.guard with
    | none => zOpen P ext ds o (zDst K o.dst)
    | some _ => zGuard ops ds o (zOpen P ext ds o (zDst K o.dst)) (zSkip (isAl P o) (zDst K o.dst))
  else zNo
noncomputable def zSeq (f g : C) : C := ⟨fun c kk b st t M => C.rec (motive := fun _ => Run) (fun f => f) f c (C.rec (motive := fun _ => Run) (fun f => f) g c kk) b st t M⟩
noncomputable def zList (P : Program) (ext : ExtF) (ops : Array Oper) (k K : Nat) (l : List Oper) : List (Option Nat) → C := List.rec (motive := fun _ => List (Option Nat) → C) (fun _ => ⟨fun _ kk b st t M => kk b st t M⟩) (fun o _ ih ds => zSeq (zOne P ext ops k K ds o) (ih (o.dst :: ds))) l

/-! ### operations whose order is drawn, where nothing read hangs on it: B is memory as it was behind the last operation that changes it -/
abbrev KD := Nat → List Value → Ev → Mem → Mem → Ans
abbrev RunD := CC → KD → Nat → List Value → Ev → Mem → Mem → Ans
structure D where
  run : RunD
/-- what looks at no memory, or only adds to it -/
noncomputable def dKeep (f : C) : D := ⟨fun c kk b st t M B => C.rec (motive := fun _ => Run) (fun f => f) f c (fun b st t M => kk b st t M B) b st t M⟩
noncomputable def dEff (f : C) : D := ⟨fun c kk b st t M B => C.rec (motive := fun _ => Run) (fun f => f) f c (fun b st t M => kk b st t M M) b st t M⟩
noncomputable def dPut (s : S) (kk : KD) (b : Nat) (st : List Value) (t : Ev) (M B : Mem) (v : Value) : Ans := S.rec (motive := fun _ => KT → Nat → List Value → Ev → Mem → Value → Ans) (fun _ p => p) s (fun b st t M => kk b st t M B) b st t M v
noncomputable def dRead (P : Program) (ds : List (Option Nat)) (o : Oper) (s : S) : D := ⟨fun _ kk b st t M B => oK none (dPut s kk b st t M B) (readV P (evS ds st t) B.get o)⟩
noncomputable def dLoad (g : G) (f : LD) (s : S) : D := ⟨fun _ kk b st t M B => G.rec (motive := fun _ => List Value → Ev → KV → Ans) (fun g => g) g st t fun x => LD.rec (motive := fun _ => Mem → Value → KV → Ans) (fun f => f) f B x (dPut s kk b st t M B)⟩
noncomputable def dReads (P : Program) (ds : List (Option Nat)) (o : Oper) (s : S) : D := match o.op with
  | .load t x => dLoad (zOp ds x) (zLoad P t) s
  | _ => dRead P ds o s
noncomputable def dOpen (P : Program) (ext : ExtF) (ds : List (Option Nat)) (o : Oper) (s : S) : D := match kindZ P o with
  | .pure => dKeep (zOpen P ext ds o s)
  | .read => dReads P ds o s
  | .alloc => dKeep (zOpen P ext ds o s)
  | .eff => dEff (zOpen P ext ds o s)
  | .call => dEff (zOpen P ext ds o s)
noncomputable def dSkip (P : Program) (o : Oper) (s : S) : D := match kindZ P o with
  | .pure => dKeep (zSkip false s)
  | .read => dKeep (zSkip false s)
  | .alloc => dKeep (zSkip true s)
  | .eff => dEff (zSkip false s)
  | .call => dEff (zSkip false s)
noncomputable def dGuard (ops : Array Oper) (ds : List (Option Nat)) (o : Oper) (f g : D) : D := ⟨fun c kk b st t M B => wantK none (D.run f c kk b st t M B) (D.run g c kk b st t M B) (wantS ops (evS ds st t) o)⟩
noncomputable def dOne (P : Program) (ext : ExtF) (ops : Array Oper) (K : Nat) (ds : List (Option Nat)) (o : Oper) : D := match o.guard with
    | none => dOpen P ext ds o (zDst K o.dst)
    | some _ => dGuard ops ds o (dOpen P ext ds o (zDst K o.dst)) (dSkip P o (zDst K o.dst))
noncomputable def dSeq (f g : D) : D := ⟨fun c kk b st t M B => D.rec (motive := fun _ => RunD) (fun f => f) f c (D.rec (motive := fun _ => RunD) (fun f => f) g c kk) b st t M B⟩
noncomputable def opZ (ops : Array Oper) (i : Nat) : Oper := List.rec (motive := fun _ => Oper) default (fun a _ _ => a) (lDrop ops.toList i)
noncomputable def dList (P : Program) (ext : ExtF) (ops : Array Oper) (K : Nat) (l : List Nat) : List (Option Nat) → D := List.rec (motive := fun _ => List (Option Nat) → D) (fun _ => ⟨fun _ kk b st t M B => kk b st t M B⟩) (fun i _ ih ds => dSeq (dOne P ext ops K ds (opZ ops i)) (ih ((opZ ops i).dst :: ds))) l

/-! ### which temporaries are read elsewhere -/
noncomputable def bits (l : List Operand) : Nat := List.rec (motive := fun _ => Nat) 0 (fun x _ m => Operand.rec (motive := fun _ => Nat) (fun s => Nat.lor m (Nat.shiftLeft 1 s)) (fun _ => m) (fun _ => m) (fun _ => m) x) l
noncomputable def usesR (ops : List Oper) : Nat := List.rec (motive := fun _ => Nat) 0 (fun o _ m => Nat.lor m (bits o.op.operands.toList)) ops
noncomputable def defsR (ops : List Oper) : Nat := List.rec (motive := fun _ => Nat) 0 (fun o _ m => Option.rec (motive := fun _ => Nat) m (fun d => Nat.lor m (Nat.shiftLeft 1 d)) o.dst) ops
/-- defined more than once in a region -/
noncomputable def twiceR (ops : List Oper) : Nat := List.rec (motive := fun _ => Nat) 0 (fun o l m => Option.rec (motive := fun _ => Nat) m (fun d => Nat.lor m (Nat.land (Nat.shiftLeft 1 d) (defsR l))) o.dst) ops
/-- (defined, defined twice, read where it is not defined) -/
noncomputable def scan : Code → Nat × Nat × Nat → Nat × Nat × Nat
  | .region _ ops _, (d, dd, u) => (Nat.lor d (defsR ops.toList), Nat.lor (Nat.lor dd (twiceR ops.toList)) (Nat.land d (defsR ops.toList)), Nat.lor (Nat.lor u (Nat.xor (usesR ops.toList) (Nat.land (usesR ops.toList) (defsR ops.toList)))) (match deferOf ops with | some (_, _, y) => bits [y] | none => 0))
  | .seq a b, p => scan b (scan a p)
  | .cond c a b, p => scan b (scan a (p.1, p.2.1, p.2.2 ||| bits [c]))
  | .block _ b, p => scan b p
  | .loop b, p => scan b p
  | .scope b, p => scan b p
  | .rangeFunc g _ a b, p => scan b (scan a (p.1, p.2.1, p.2.2 ||| bits [g]))
  | _, p => p
noncomputable def resBits : List ResultVar → Nat
  | [] => 0
  | .tmp s :: l => 2 ^ s ||| resBits l
  | .cell s _ :: l => 2 ^ s ||| resBits l
noncomputable def keepOf (c : Code) (n : Nat) (rs : List ResultVar) : Nat := match scan c (0, 0, 0) with
  | (_, dd, u) => dd ||| u ||| (2 ^ n - 1) ||| resBits rs

/-! ### code -/
abbrev KX := Exit → Ev → Mem → List Dfr → Ans
abbrev RunX := CC → KX → Ev → Mem → List Dfr → Ans
structure ZX where
  run : RunX
noncomputable def xNorm (y : Ev → Mem → List Dfr → Ans) (kx : KX) : KX := fun e => Exit.rec (motive := fun _ => (Ev → Mem → List Dfr → Ans) → KX → Ev → Mem → List Dfr → Ans) (fun y _ => y) (fun i _ kx => kx (.exit i)) (fun l _ kx => kx (.goto l)) (fun _ kx => kx .ret) (fun p _ kx => kx (.panic p)) (fun _ kx => kx .outgrown) e y kx
noncomputable def xSeq (f g : ZX) : ZX := ⟨fun c kx t M d => ZX.rec (motive := fun _ => RunX) (fun f => f) f c (xNorm (ZX.rec (motive := fun _ => RunX) (fun f => f) g c kx) kx) t M d⟩
noncomputable def xCond (g : G) (f h : ZX) : ZX := ⟨fun c kx t M d => G.rec (motive := fun _ => List Value → Ev → KV → Ans) (fun g => g) g [] t (vBool none fun b => Bool.rec (motive := fun _ => Ans) (ZX.rec (motive := fun _ => RunX) (fun f => f) h c kx t M d) (ZX.rec (motive := fun _ => RunX) (fun f => f) f c kx t M d) b)⟩
noncomputable def xOut (id : Nat) (kx : KX) : KX := fun e => Exit.rec (motive := fun _ => Nat → KX → Ev → Mem → List Dfr → Ans) (fun _ kx => kx .normal) (fun i id kx => Bool.rec (motive := fun _ => Ev → Mem → List Dfr → Ans) (kx (.exit i)) (kx .normal) (Nat.beq i id)) (fun l _ kx => kx (.goto l)) (fun _ kx => kx .ret) (fun p _ kx => kx (.panic p)) (fun _ kx => kx .outgrown) e id kx
noncomputable def xBlock (id : Nat) (f : ZX) : ZX := ⟨fun c kx t M d => ZX.rec (motive := fun _ => RunX) (fun f => f) f c (xOut id kx) t M d⟩
noncomputable def xLoop (n : Nat) (f : ZX) : ZX := ⟨fun c kx => Nat.rec (motive := fun _ => Ev → Mem → List Dfr → Ans) (fun _ _ _ => none) (fun _ ih t M d => ZX.rec (motive := fun _ => RunX) (fun f => f) f c (xNorm ih kx) t M d) n⟩
noncomputable def xReg (n : Nat) (f : C) : ZX := ⟨fun c kx t M d => Mem.rec (motive := fun _ => Ans) (fun nx tr => C.rec (motive := fun _ => Run) (fun f => f) f c (fun _ _ t M => kx .normal t M d) nx [] t ⟨Nat.add nx n, tr⟩) M⟩
noncomputable def xRegD (n : Nat) (f : D) : ZX := ⟨fun c kx t M d => Mem.rec (motive := fun _ => Ans) (fun nx tr => D.rec (motive := fun _ => RunD) (fun f => f) f c (fun _ _ t M _ => kx .normal t M d) nx [] t ⟨Nat.add nx n, tr⟩ ⟨Nat.add nx n, tr⟩) M⟩
/-- the region's last operation: a call that is put off -/
noncomputable def xDefer (K : Nat) (o : Oper) (y : Operand) (f : ZX) : ZX := ⟨fun c kx t M d => ZX.run f c (fun e t M d => match e with
  | .normal => match evS [] [] t y with
    | some (.func (.func g) xs cap) => bif xs.isEmpty then kx .normal (S.run (zDst K o.dst) t undef) M (.fn g cap :: d) else none
    | _ => none
  | _ => none) t M d⟩
noncomputable def xRange (P : Program) (g : Operand) : ZX := ⟨fun c kx t M d => match evS [] [] t g with
  | some (.func (.func gf) xs lb) => bif xs.isEmpty && callable P gf then match CC.seq c gf lb M with
      | some M => kx .normal t M (.coll :: d)
      | none => none
    else none
  | _ => none⟩
/-- a scope: code from a label on -/
noncomputable def xScope (n : Nat) (b : Code) (z : Code → ZX) : ZX := ⟨fun c kx t M d => Nat.rec (motive := fun _ => Code → Ev → Mem → List Dfr → Ans) (fun _ _ _ _ => none)
  (fun _ ih cur t M d => ZX.run (z cur) c (fun e t M d => match e with
    | .goto l => match findLabel b l with
      | some rest => ih rest t M d
      | none => none
    | e => kx e t M d) t M d) n b t M d⟩
noncomputable def xNo : ZX := ⟨fun _ _ _ _ _ => none⟩
/-! ### operations whose order is drawn, where what is read hangs on it: told slowly -/
def hRl (U : List (Nat × Nat)) (j : Nat) (M : Mem) : List (Nat × (Mem → Bool)) → Bool
  | [] => true
  | (i, f) :: l => (!(inP U i j) || f M) && hRl U j M l
noncomputable def hRun (P : Program) (ext : ExtF) (ops : Array Oper) (K : Nat) (A U : List (Nat × Nat)) (c : CC) (kk : Ev → Mem → Ans) : List Nat → List (Option Nat) → Nat → List Value → Ev → Mem → Mem → List (Nat × Nat × Blk) → List (Nat × Mem) → List (Nat × (Mem → Bool)) → Ans
  | [], _, _, _, t, M, _, _, _, _ => kk t M
  | i :: l, ds, b, st, t, M, B, al, log, rl => match wantS ops (evS ds st t) (opAt ops i) with
    | none => none
    | some false => match kindZ P (opAt ops i) with
      | .alloc => hRun P ext ops K A U c kk l ((opAt ops i).dst :: ds) (b + 1) (undef :: st) (S.run (zDst K (opAt ops i).dst) t undef) M B al log rl
      | .eff => bif hRl U i M rl then hRun P ext ops K A U c kk l ((opAt ops i).dst :: ds) b (undef :: st) (S.run (zDst K (opAt ops i).dst) t undef) M M [] ((i, B) :: log) rl else none
      | .call => bif hRl U i M rl then hRun P ext ops K A U c kk l ((opAt ops i).dst :: ds) b (undef :: st) (S.run (zDst K (opAt ops i).dst) t undef) M M [] ((i, B) :: log) rl else none
      | _ => hRun P ext ops K A U c kk l ((opAt ops i).dst :: ds) b (undef :: st) (S.run (zDst K (opAt ops i).dst) t undef) M B al log rl
    | some true => match kindZ P (opAt ops i) with
      | .pure => match pureV P (evS ds st t) (opAt ops i) with
        | some v => hRun P ext ops K A U c kk l ((opAt ops i).dst :: ds) b (v :: st) (S.run (zDst K (opAt ops i).dst) t v) M B al log rl
        | none => none
      | .read => match readV P (evS ds st t) (withA A al i B.get) (opAt ops i) with
        | some v => bif xLog U i (fun B' => isV (readV P (evS ds st t) (withA A al i B'.get) (opAt ops i)) v) log then
            hRun P ext ops K A U c kk l ((opAt ops i).dst :: ds) b (v :: st) (S.run (zDst K (opAt ops i).dst) t v) M B al log ((i, fun m => isV (readV P (evS ds st t) m.get (opAt ops i)) v) :: rl) else none
        | none => none
      | .alloc => match allocA P (evS ds st t) (opAt ops i).op with
        | some (bl, mk) => hRun P ext ops K A U c kk l ((opAt ops i).dst :: ds) (b + 1) (mk b :: st) (S.run (zDst K (opAt ops i).dst) t (mk b)) (mPut M b bl) B ((i, b, bl) :: al) log rl
        | none => none
      | .eff => match effV P (evS ds st t) M (opAt ops i) with
        | some (v, M') => bif hRl U i M' rl then hRun P ext ops K A U c kk l ((opAt ops i).dst :: ds) b (v :: st) (S.run (zDst K (opAt ops i).dst) t v) M' M' [] ((i, B) :: log) rl else none
        | none => none
      | .call => match callOf P (evS ds st t) (opAt ops i) with
        | some (f, args) => match CC.call c f args.toList M with
          | some (v, M') => bif hRl U i M' rl then hRun P ext ops K A U c kk l ((opAt ops i).dst :: ds) b (v :: st) (S.run (zDst K (opAt ops i).dst) t v) M' M' [] ((i, B) :: log) rl else none
          | none => none
        | none => match ext (evS ds st t) M (opAt ops i) with
          | some v => bif hRl U i M rl then hRun P ext ops K A U c kk l ((opAt ops i).dst :: ds) b (v :: st) (S.run (zDst K (opAt ops i).dst) t v) M M [] ((i, B) :: log) rl else none
          | none => none
noncomputable def xDraw (P : Program) (ext : ExtF) (K : Nat) (ops : Array Oper) (r : Row) : ZX := ⟨fun c kx t M d => Mem.rec (motive := fun _ => Ans) (fun nx tr =>
    hRun P ext ops K r.A r.U c (fun t M => kx .normal t M d) r.ord [] nx [] t ⟨Nat.add nx (nAlZ P (r.ord.map fun i => opAt ops i)), tr⟩ ⟨Nat.add nx (nAlZ P (r.ord.map fun i => opAt ops i)), tr⟩ [] [] []) M⟩
noncomputable def zRegion (P : Program) (tab : List Row) (ext : ExtF) (f k K id : Nat) (ops : Array Oper) (draw : Bool) : ZX := bif draw then match rowOf f id tab with
      | some r => bif r.A.isEmpty && r.U.isEmpty then xRegD (nAlZ P (r.ord.map fun i => opZ ops i)) (dList P ext ops K r.ord []) else xDraw P ext K ops r
      | none => xNo
    else match deferOf ops with
      | none => xReg (nAlZ P ops.toList) (zList P ext ops k K ops.toList [])
      | some (l, o, y) => bif dstLt k o.dst then xDefer K o y (xReg (nAlZ P l) (zList P ext ops k K l [])) else xNo
noncomputable def zCode (P : Program) (tab : List Row) (ext : ExtF) (n f k K : Nat) (lvl : Nat) : Code → ZX := Nat.rec (motive := fun _ => Code → ZX) (fun _ => xNo) (fun _ zc c => Code.rec (motive := fun _ => ZX)
  ⟨fun _ kx t M d => kx .normal t M d⟩
  (fun id ops draw => zRegion P tab ext f k K id ops draw)
  (fun _ _ a b => xSeq a b)
  (fun x _ _ a b => xCond (zOp [] x) a b)
  (fun id _ b => xBlock id b)
  (fun _ b => xLoop n b)
  (fun g _ _ _ _ _ => xRange P g)
  (fun id => ⟨fun _ kx t M d => kx (.exit id) t M d⟩)
  (fun b _ => xScope n b zc)
  (fun _ => ⟨fun _ kx t M d => kx .normal t M d⟩)
  (fun l => ⟨fun _ kx t M d => kx (.goto l) t M d⟩)
  ⟨fun _ kx t M d => kx .ret t M d⟩
  (fun _ => xNo) c) lvl

/-! ### bodies, and the machine -/
structure ZF where
  call : CC → List Value → Mem → Ans
  seq : CC → List Value → Mem → Ans
  dfc : CC → List Value → Mem → Ans
noncomputable def zArg (l : List Value) : Nat → Ev → Ev := List.rec (motive := fun _ => Nat → Ev → Ev) (fun _ t => t) (fun v _ ih i t => ih (Nat.succ i) (S0.rec (motive := fun _ => Ev → Value → Ev) (fun s => s) (sEnv0 i) t v)) l
noncomputable def resE (P : Program) (t : Ev) (M : Mem) : List ResultVar → Option (List Value)
  | [] => some []
  | .tmp s :: l => match t.get s, resE P t M l with
    | some v, some vs => some (v :: vs)
    | _, _ => none
  | .cell a ty :: l => match t.get a with
    | some x => match loadV P M.get ty x, resE P t M l with
      | some v, some vs => some (v :: vs)
      | _, _ => none
    | none => none
noncomputable def retE (P : Program) (rs : List ResultVar) (t : Ev) (M : Mem) : Option Value := match resE P t M rs with
  | some [v] => some v
  | some vs => some (.tuple vs.toArray)
  | none => none
noncomputable def leaveG (P : Program) (rs : List ResultVar) (c : CC) (t : Ev) (M : Mem) (d : List Dfr) : Ans := match d with
  | [] => (retE P rs t M).map fun v => (v, M)
  | [.coll] => (retE P rs t M).map fun v => (v, M)
  | [.fn f cap] => bif callable P f then match c.dfc f cap M with
      | some M' => (retE P rs t M').map fun v => (v, M')
      | none => none
    else none
  | _ => none
noncomputable def leave1 (P : Program) (rs : List ResultVar) (g : G) (c : CC) (t : Ev) (M : Mem) (d : List Dfr) : Ans := List.rec (motive := fun _ => Ans) (G.run g [] t fun v => some (v, M)) (fun _ _ _ => leaveG P rs c t M d) d
noncomputable def leaveP (P : Program) (rs : List ResultVar) (c : CC) (t : Ev) (M : Mem) (d : List Dfr) : Ans := bif d.isEmpty then (retE P rs t M).map fun v => (v, M) else none
noncomputable def atEnd (fin : CC → Ev → Mem → List Dfr → Ans) (c : CC) : KX := fun e t M d => Exit.rec (motive := fun _ => Ans) (fin c t M d) (fun _ => none) (fun _ => none) (fin c t M d) (fun _ => none) none e
structure LV where
  run : CC → Ev → Mem → List Dfr → Ans
noncomputable def zLeave (P : Program) (rs : List ResultVar) : LV := match rs with
  | [.tmp r] => ⟨leave1 P [.tmp r] (gEnv r)⟩
  | rs => ⟨leaveG P rs⟩
noncomputable def zBody (k i : Nat) (f : ZX) (fin : LV) : CC → List Value → Mem → Ans := fun c l M => Bool.rec (motive := fun _ => Ans) none (ZX.rec (motive := fun _ => RunX) (fun f => f) f c (atEnd (LV.run fin) c) (zArg l i .nil) M []) (Nat.ble (i + l.length) k)
abbrev Over := FuncId → Option (List Value → Mem → Ans)
noncomputable def zFn (P : Program) (tab : List Row) (ext : ExtF) (ov : Over) (n lvl f : Nat) : ZF := match ov f with
  | some g => ⟨fun _ l M => g l M, fun _ _ _ => none, fun _ _ _ => none⟩
  | none => match funZ P f with
    | some fn => match fn.body with
      | some c => bif Nat.ble (fn.params.size + fn.nfree) fn.ntmps then ⟨zBody (fn.params.size + fn.nfree) 0 (zCode P tab ext n f fn.ntmps (keepOf c (fn.params.size + fn.nfree) fn.results.toList) lvl c) (zLeave P fn.results.toList), zBody (fn.params.size + fn.nfree) 1 (zCode P tab ext n f fn.ntmps (keepOf c (fn.params.size + fn.nfree) fn.results.toList) lvl c) (zLeave P fn.results.toList),
          zBody (fn.params.size + fn.nfree) 0 (zCode P tab ext n f fn.ntmps (keepOf c (fn.params.size + fn.nfree) fn.results.toList) lvl c) ⟨leaveP P fn.results.toList⟩⟩ else ⟨fun _ _ _ => none, fun _ _ _ => none, fun _ _ _ => none⟩
      | none => ⟨fun _ _ _ => none, fun _ _ _ => none, fun _ _ _ => none⟩
    | none => ⟨fun _ _ _ => none, fun _ _ _ => none, fun _ _ _ => none⟩
noncomputable def zMach (P : Program) (tab : List Row) (ext : ExtF) (ov : Over) (n lvl : Nat) (depth : Nat) : CC := Nat.rec (motive := fun _ => CC) ⟨fun _ _ _ => none, fun _ _ _ => none, fun _ _ _ => none⟩
  (fun _ c => ⟨fun f l M => (zFn P tab ext ov n lvl f).call c l M, fun f lb M => ((zFn P tab ext ov n lvl f).seq c lb.toList M).map (·.2), fun f lb M => ((zFn P tab ext ov n lvl f).dfc c lb.toList M).map (·.2)⟩) depth
end Go.Proofs.YtopblipficpilaaGreatDoor.AY
