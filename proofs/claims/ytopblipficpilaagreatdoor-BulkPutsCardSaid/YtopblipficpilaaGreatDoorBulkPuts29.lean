/- From what was handed in to the layer, second part: what a value of a type looks like; the way back. -/
import Derived.Test.YtopblipficpilaaGreatDoorBulkPuts28
import Derived.Test.YtopblipficpilaaGreatDoorBulkPuts7
import Derived.Carry
namespace Go.Proofs.YtopblipficpilaaGreatDoor.AY
open Go Go.RowKit Go.ChangeShapes Go.WideShapes Go.Deep
set_option linter.unusedVariables false
set_option linter.unusedSimpArgs false

section
variable {P : Program} {M : Mem} {t e : TypeId} {cells : List Value}
theorem Sh.struct_inv {fs : Array Field} (h : Sh P M t cells) (ht : P.underlying t = some (.struct fs)) : cells.length = P.cellsOf t ∧ ∀ (i : Nat) (f : Field), fs[i]? = some f → Sh P M f.type ((cells.drop f.offset).take (P.cellsOf f.type)) := by
  cases h with
  | int h _ => rw [ht] at h; cases h
  | bool h => rw [ht] at h; cases h
  | string h _ => rw [ht] at h; cases h
  | nils h => rw [ht] at h; cases h
  | empty h _ => rw [ht] at h; cases h
  | slice h _ _ _ _ => rw [ht] at h; cases h
  | struct h hl hf => rw [ht] at h; cases h; exact ⟨hl, hf⟩
theorem Sh.len {fs : Array Field} (h : Sh P M t cells) (ht : P.underlying t = some (.struct fs)) {n : Nat} (hn : P.cellsOf t = n) : cells.length = n := hn ▸ (h.struct_inv ht).1
theorem Sh.field {fs : Array Field} (h : Sh P M t cells) (ht : P.underlying t = some (.struct fs)) (i ty off : Nat) {n : Nat} (hi : (fs[i]?).map (fun f => (f.type, f.offset)) = some (ty, off)) (hn : P.cellsOf ty = n) : Sh P M ty ((cells.drop off).take n) := by
  rw [Option.map_eq_some_iff] at hi
  obtain ⟨f, hf, he⟩ := hi
  cases he
  subst hn
  exact (h.struct_inv ht).2 i f hf
theorem Sh.int_inv {k : IntKind} (h : Sh P M t cells) (ht : P.underlying t = some (.int k)) : ∃ n, cells = [.int k n] ∧ (Lit.int k n).wf = true := by
  cases h with
  | int h hw => rw [ht] at h; cases h; exact ⟨_, rfl, hw⟩
  | bool h => rw [ht] at h; cases h
  | string h _ => rw [ht] at h; cases h
  | nils h => rw [ht] at h; cases h
  | empty h _ => rw [ht] at h; cases h
  | slice h _ _ _ _ => rw [ht] at h; cases h
  | struct h hl hf => rw [ht] at h; cases h
theorem Sh.bool_inv (h : Sh P M t cells) (ht : P.underlying t = some .bool) : ∃ b, cells = [.bool b] := by
  cases h with
  | int h hw => rw [ht] at h; cases h
  | bool h => exact ⟨_, rfl⟩
  | string h _ => rw [ht] at h; cases h
  | nils h => rw [ht] at h; cases h
  | empty h _ => rw [ht] at h; cases h
  | slice h _ _ _ _ => rw [ht] at h; cases h
  | struct h hl hf => rw [ht] at h; cases h
theorem Sh.slice_inv (h : Sh P M t cells) (ht : P.underlying t = some (.slice e)) : ∃ v n ecs, cells = [v] ∧ Row_ M v n ecs ∧ (n = 0 ∨ RowE M v n ecs e) ∧ ecs.length = n * P.cellsOf e ∧ n ≤ maxLen ∧ ∀ i, i < n → Sh P M e ((ecs.drop (i * P.cellsOf e)).take (P.cellsOf e)) := by
  cases h with
  | int h hw => rw [ht] at h; cases h
  | bool h => rw [ht] at h; cases h
  | string h _ => rw [ht] at h; cases h
  | nils h => exact ⟨_, 0, [], rfl, Row_.nil M, .inl rfl, by simp, Nat.zero_le _, fun i hi => by omega⟩
  | empty h _ => exact ⟨_, 0, [], rfl, .inl ⟨rfl, rfl, .inr ⟨_, 0, _, rfl⟩⟩, .inl rfl, by simp, Nat.zero_le _, fun i hi => by omega⟩
  | slice h hb hl hn hel => rw [ht] at h; cases h; exact ⟨_, _, _, rfl, Row_.of hb, .inr ⟨_, 0, _, _, rfl, .inl rfl, hb, rfl, by simp, by simp⟩, hl, hn, hel⟩
  | struct h hl hf => rw [ht] at h; cases h

/-- the elements of a row, as things -/
theorem rows_of {α : Type} {f : α → List Value} {p : α → Prop} {sz : Nat} : ∀ (n : Nat) (ecs : List Value), ecs.length = n * sz → (∀ i, i < n → ∃ a, (ecs.drop (i * sz)).take sz = f a ∧ p a) → ∃ l : List α, l.length = n ∧ ecs = l.flatMap f ∧ ∀ a, a ∈ l → p a := by
  intro n
  induction n with
  | zero => intro ecs hl _; exact ⟨[], rfl, by rw [List.eq_nil_of_length_eq_zero (l := ecs) (by omega)]; rfl, by simp⟩
  | succ n ih =>
    intro ecs hl h
    obtain ⟨a, ha, hp⟩ := h 0 (Nat.succ_pos _)
    rw [Nat.zero_mul, List.drop_zero] at ha
    rw [Nat.succ_mul] at hl
    obtain ⟨l, h1, h2, h3⟩ := ih (ecs.drop sz) (by rw [List.length_drop]; omega) (fun i hi => by
      obtain ⟨b, hb, hq⟩ := h (i + 1) (by omega)
      refine ⟨b, ?_, hq⟩
      rw [List.drop_drop, show sz + i * sz = (i + 1) * sz by rw [Nat.succ_mul]; omega]; exact hb)
    refine ⟨a :: l, by simp [h1], ?_, fun b hb => ?_⟩
    · rw [List.flatMap_cons, ← ha, ← h2, List.take_append_drop]
    · rcases List.mem_cons.1 hb with rfl | hb
      · exact hp
      · exact h3 b hb
theorem flatMap_one {α : Type} (g : α → Value) (l : List α) : l.flatMap (fun a => [g a]) = l.map g := by
  induction l with
  | nil => rfl
  | cons a l ih => rw [List.flatMap_cons, ih]; rfl
/-- a row of whole numbers -/
theorem Sh.ints {k : IntKind} (h : Sh P M t cells) (ht : P.underlying t = some (.slice e)) (he : P.underlying e = some (.int k)) (hc : P.cellsOf e = 1) :
    ∃ (v : Value) (l : List Int), cells = [v] ∧ Row_ M v l.length (l.map (Value.int k)) ∧ l.length ≤ maxLen ∧ ∀ x, x ∈ l → (Lit.int k x).wf = true := by
  obtain ⟨v, n, ecs, h1, h2, _, h3, h4, h5⟩ := h.slice_inv ht
  rw [hc] at h3 h5
  obtain ⟨l, rfl, rfl, q3⟩ := rows_of (f := fun x => [Value.int k x]) (p := fun x => (Lit.int k x).wf = true) n ecs h3 fun i hi => (h5 i hi).int_inv he
  rw [flatMap_one] at h2
  exact ⟨v, l, h1, h2, h4, q3⟩
end

/-- a value that was handed in, as the layer has it -/
def ShV (P : Program) (M : Mem) (t : TypeId) (v : Value) : Prop := match P.underlying t with
  | some (.struct _) => ∃ acs : List Value, v = .agg acs.toArray ∧ Sh P M t acs
  | _ => Sh P M t [v]
theorem ShV.grew {P : Program} {M M1 : Mem} {t : TypeId} {v : Value} (h : ShV P M t v) (hg : Grew M M1) : ShV P M1 t v := by
  unfold ShV at h ⊢
  split at h
  · obtain ⟨acs, h1, h2⟩ := h; exact ⟨acs, h1, h2.grew hg⟩
  · exact Sh.grew h hg
theorem cells_plain {v : Value} (h : ∀ xs, v ≠ .agg xs) : v.cells.toList = [v] := by cases v <;> first | rfl | exact absurd rfl (h _)

theorem reifyV {H : Type} {enc : TypeId × Value → H} {P : Program} {w : World} {base base' : Nat} {r : Reach} {held : Bool} {n : Nat} {t : TypeId} (hgood : goodT P n t = true) {v : Value} (hok : Value.okWide P w r base' t v) {d : DataW H} {ps : List MemPlace}
    (h : DataW.Trod enc P w base (fun _ => true) held t v d ps) {ρ : Emb} {M : Mem} (hg : Good P w ρ M) : ∃ ρ' M' av, Sub ρ ρ' ∧ Grew M M' ∧ Good P w ρ' M' ∧ VR P ρ' av v ∧ ShV P M' t av := by
  obtain ⟨fuel, hf⟩ := h
  obtain ⟨ρ', M', acs, s1, g1, d1, v1, sh1⟩ := reify n t hgood fuel _ _ hf ρ M hg
  have plainly : (∀ xs, v ≠ .agg xs) → (∀ av, Sh P M' t [av] → ShV P M' t av) → ∃ ρ' M' av, Sub ρ ρ' ∧ Grew M M' ∧ Good P w ρ' M' ∧ VR P ρ' av v ∧ ShV P M' t av := by
    intro hv hsh
    rw [cells_plain hv] at v1
    cases v1 with
    | cons hx hnil => cases hnil; exact ⟨ρ', M', _, s1, g1, d1, hx, hsh _ sh1⟩
  unfold goodT at hgood
  cases n with
  | zero => simp at hgood
  | succ n =>
    simp only at hgood
    split at hgood
    · rename_i ht
      refine plainly (fun xs hxs => ?_) fun av h => by unfold ShV; rw [ht]; exact h
      subst hxs; simp [Value.okWide, Cell.okWide, Cell.ok, ht] at hok
    · rename_i k ht
      refine plainly (fun xs hxs => ?_) fun av h => by unfold ShV; rw [ht]; exact h
      subst hxs; simp [Value.okWide, Cell.okWide, Cell.ok, ht] at hok
    · rename_i ht
      refine plainly (fun xs hxs => ?_) fun av h => by unfold ShV; rw [ht]; exact h
      subst hxs; simp [Value.okWide, Cell.okWide, Cell.ok, ht] at hok
    · rename_i e ht
      refine plainly (fun xs hxs => ?_) fun av h => by unfold ShV; rw [ht]; exact h
      subst hxs; simp [Value.okWide, Cell.okWide, Cell.ok, ht] at hok
    · rename_i fs ht
      unfold Value.okWide at hok
      rw [ht] at hok
      simp only at hok
      obtain ⟨cs, rfl, _, _⟩ := hok
      refine ⟨ρ', M', .agg acs.toArray, s1, g1, d1, ?_, by unfold ShV; rw [ht]; exact ⟨acs, rfl, sh1⟩⟩
      simp only [Value.cells] at v1
      refine .agg (by simpa using v1.length) fun i a a' ha ha' => ?_
      simp at ha
      obtain ⟨b, hb, hr⟩ := v1.at i a ha
      rw [Array.getElem?_toList] at hb
      rw [hb] at ha'; cases ha'
      exact hr
    · cases hgood

/-- a call that was shown in the layer, where all that was handed in is only read -/
theorem ACall.row {P : Program} {f : FuncId} {args args' : Array Value} {M M' : Mem} {r : Value} (h : ACall P f args M r M') {ρ : Emb} {w : World} (hg : Good P w ρ M) (ha : VRs P ρ args args') :
    Calls P f args' w fun e w' => ∃ r' ρ', e = .returned r' ∧ VR P ρ' r r' ∧ Below w.heap.size w w' := by
  refine (h ρ w args' ha hg.hr hg.free).mono ?_
  rintro e w' ⟨r', ρ', rfl, h1, _, _, h4⟩
  refine ⟨r', ρ', rfl, h1, h4.ext.io.1, h4.ext.io.2.1, h4.ext.io.2.2, h4.ext.size, fun k hk => h4.ext.heap k hk ?_⟩
  rintro ⟨i, b, g, hi, hrw, _⟩
  rw [hg.ro i b hi] at hrw; cases hrw
theorem VRs.one {P : Program} {ρ : Emb} {v v' : Value} (h : VR P ρ v v') : VRs P ρ #[v] #[v'] := ⟨rfl, fun i a b ha hb => by
  match i with
  | 0 => simp at ha hb; subst ha hb; exact h
  | i + 1 => simp at ha⟩
end Go.Proofs.YtopblipficpilaaGreatDoor.AY
