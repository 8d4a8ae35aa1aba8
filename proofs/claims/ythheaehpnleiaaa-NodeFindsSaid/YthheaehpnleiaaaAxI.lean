/- The layer, ninth part: reading, making and writing memory. -/
import Derived.Test.YthheaehpnleiaaaAxH
import Derived.Laws.BytesString
namespace Go.Proofs.Ythheaehpnleiaaa.AX
open Go
set_option linter.unusedVariables false
set_option linter.unusedSimpArgs false
section
variable {P : Program} {ρ : Emb} {m : Mm} {w : World}

theorem One.cell {f : Inf} {b : Blk} (h : One P ρ w f b) {o : Nat} {v : Value} (hv : b.cells[o]? = some v) : ∃ v', w.cell? ⟨f.blk, f.shift + o, none⟩ = some v' ∧ VR P ρ v v' := by
  obtain ⟨cs, el, fz, h1, _, _, h4⟩ := h.row
  obtain ⟨v', h5, h6⟩ := h4 o v hv
  exact ⟨v', by simp [World.cell?, h1, h5], h6⟩

theorem One.range {f : Inf} {b : Blk} (h : One P ρ w f b) {o n : Nat} (hn : o + n ≤ b.cells.length) :
    ∃ vs : List Value, vs.length = n ∧ VL P ρ ((b.cells.drop o).take n) vs ∧ ∀ (j : Nat) (u : Value), vs[j]? = some u → w.cell? ((⟨f.blk, f.shift + o, none⟩ : Addr).add j) = some u := by
  obtain ⟨cs, el, fz, h1, h2, _, h4⟩ := h.row
  have hroom := h.room
  refine ⟨(cs.toList.drop (f.shift + o)).take n, by simp; omega, VL.of_get (by simp; omega) ?_, ?_⟩
  · intro i v v' hv hv'
    rw [List.getElem?_take] at hv hv'
    split at hv
    · rename_i hlt
      simp only [List.getElem?_drop] at hv
      simp only [hlt, if_true, List.getElem?_drop] at hv'
      obtain ⟨v'', h5, h6⟩ := h4 (o + i) v hv
      rw [Array.getElem?_toList] at hv'
      rw [show f.shift + o + i = f.shift + (o + i) by omega, h5] at hv'
      cases hv'; exact h6
    · cases hv
  · intro j u hu
    rw [List.getElem?_take] at hu
    split at hu
    · rw [List.getElem?_drop, Array.getElem?_toList] at hu
      rw [addr_add]
      simp [World.cell?, h1, hu]
    · cases hu

/-- a new block -/
theorem HR.alloc (hr : HR P ρ m w) {id : Nat} (hid : ρ id = none) {cells : List Value} {cs : Array Value} {elem : TypeId} {fz : Nat × Nat} (hfz : fz = (0, 0) ∨ fz = (cs.size, cs.size + 1)) (hlen : cells.length ≤ cs.size)
    (hcs : ∀ (o : Nat) (v : Value), cells[o]? = some v → ∃ v', cs[o]? = some v' ∧ VR P ρ v v') {w' : World} (hw : w'.heap = w.heap.push (.cells cs elem fz)) (hio : Io w w') {rw_ : Bool} :
    HR P (updE ρ id ⟨w.heap.size, 0, cs.size, elem⟩) (updM m id ⟨cells, elem, rw_⟩) w' ∧ Ext ρ m w (updE ρ id ⟨w.heap.size, 0, cs.size, elem⟩) (updM m id ⟨cells, elem, rw_⟩) w' ∧ m id = none := by
  have hm : m id = none := by
    cases h : m id with
    | none => rfl
    | some b => obtain ⟨f, hf, _⟩ := hr.one id b h; rw [hid] at hf; cases hf
  have hsub : Sub ρ (updE ρ id ⟨w.heap.size, 0, cs.size, elem⟩) := fun i f hf => by
    unfold updE
    have : i ≠ id := by rintro rfl; rw [hid] at hf; cases hf
    simp [this, hf]
  have hold : ∀ B, B < w.heap.size → w'.heap[B]? = w.heap[B]? := fun B hB => by
    rw [hw, Array.getElem?_push]
    have : B ≠ w.heap.size := by omega
    simp [this]
  refine ⟨⟨fun i b hi => ?_, ?_⟩, ⟨hsub, by rw [hw]; simp, fun B hB _ => hold B hB, fun i f hi hf => ?_, fun i b' hi => ?_, hio⟩, hm⟩
  · unfold updM at hi
    by_cases hii : i = id
    · subst hii
      simp only [if_true, Option.some.injEq] at hi; subst hi
      refine ⟨_, by simp [updE]; rfl, rfl, by simpa using hlen, cs, elem, fz, by simp [hw], rfl, fun _ => ⟨rfl, hfz⟩, fun o v hv => ?_⟩
      obtain ⟨v', h1, h2⟩ := hcs o v hv
      exact ⟨v', by simpa using h1, h2.mono hsub⟩
    · simp only [hii, if_false] at hi
      obtain ⟨f, hf, ho⟩ := hr.one i b hi
      exact ⟨f, hsub i f hf, ho.mono hsub (hold f.blk ho.lt)⟩
  · intro i j bi bj fi fj hij hi hj hrw hfi hfj
    unfold updM at hi hj
    unfold updE at hfi hfj
    by_cases hii : i = id
    · have hjj : j ≠ id := fun h => hij (hii.trans h.symm)
      simp only [hii, if_true, Option.some.injEq] at hfi
      simp only [hjj, if_false] at hfj hj
      obtain ⟨f, hf, ho⟩ := hr.one j bj hj
      rw [hfj] at hf; cases hf
      have := ho.lt
      subst hfi
      simp; omega
    · simp only [hii, if_false] at hfi hi
      by_cases hjj : j = id
      · simp only [hjj, if_true, Option.some.injEq] at hfj
        obtain ⟨f, hf, ho⟩ := hr.one i bi hi
        rw [hfi] at hf; cases hf
        have := ho.lt
        subst hfj
        simp; omega
      · simp only [hjj, if_false] at hfj hj
        exact hr.apart i j bi bj fi fj hij hi hj hrw hfi hfj
  · unfold updE at hf
    by_cases hii : i = id
    · simp only [hii, if_true, Option.some.injEq] at hf; subst hf; exact .inl (Nat.le_refl _)
    · simp only [hii, if_false] at hf; rw [hi] at hf; cases hf
  · unfold updM at hi
    by_cases hii : i = id
    · subst hii; exact .inr hid
    · simp only [hii, if_false] at hi; exact .inl ⟨b', hi, fun h => h⟩

/-- a block written -/
theorem HR.write (hr : HR P ρ m w) {id : Nat} {b : Blk} {f : Inf} (hb : m id = some b) (hrw : b.rw = true) (hf : ρ id = some f) {cells : List Value} {cs' : Array Value} {fz : Nat × Nat} (hsz : cs'.size = f.room)
    (hfz : fz = (0, 0) ∨ fz = (cs'.size, cs'.size + 1)) (hlen : cells.length = b.cells.length)
    (hcs : ∀ (o : Nat) (v : Value), cells[o]? = some v → ∃ v', cs'[f.shift + o]? = some v' ∧ VR P ρ v v') {w' : World} (hw : w'.heap = w.heap.setIfInBounds f.blk (.cells cs' f.elem fz)) (hio : Io w w') :
    HR P ρ (updM m id { b with cells := cells }) w' ∧ Ext ρ m w ρ (updM m id { b with cells := cells }) w' := by
  obtain ⟨f₀, hf₀, ho⟩ := hr.one id b hb
  rw [hf] at hf₀; cases hf₀
  have hlt := ho.lt
  have hoff : ∀ B, B ≠ f.blk → w'.heap[B]? = w.heap[B]? := fun B hB => by rw [hw, Array.getElem?_setIfInBounds_ne (Ne.symm hB)]
  have hother : ∀ i bi fi, i ≠ id → m i = some bi → ρ i = some fi → fi.blk ≠ f.blk := fun i bi fi hi hmi hfi => (hr.apart id i b bi f fi (Ne.symm hi) hb hmi hrw hf hfi).symm
  refine ⟨⟨fun i c hi => ?_, ?_⟩, ⟨Sub.refl ρ, by rw [hw]; simp, fun B hB hnw => ?_, fun i g hi hg => (by rw [hi] at hg; cases hg), fun i b' hi => ?_, hio⟩⟩
  · unfold updM at hi
    by_cases hii : i = id
    · subst hii
      simp only [if_true, Option.some.injEq] at hi; subst hi
      exact ⟨f, hf, ho.elem, by simpa [hlen] using ho.room, cs', f.elem, fz, by rw [hw]; simp [hlt], hsz, fun _ => ⟨rfl, hfz⟩, hcs⟩
    · simp only [hii, if_false] at hi
      obtain ⟨g, hg, hog⟩ := hr.one i c hi
      exact ⟨g, hg, hog.mono (Sub.refl ρ) (hoff _ (hother i c g hii hi hg))⟩
  · intro i j bi bj fi fj hij hi hj hr' hfi hfj
    unfold updM at hi hj
    by_cases hii : i = id
    · have hjj : j ≠ id := fun h => hij (hii.trans h.symm)
      simp only [hjj, if_false] at hj
      subst hii
      exact hr.apart i j b bj fi fj hij hb hj hrw hfi hfj
    · simp only [hii, if_false] at hi
      by_cases hjj : j = id
      · subst hjj
        exact hr.apart i j bi b fi fj hij hi hb hr' hfi hfj
      · simp only [hjj, if_false] at hj
        exact hr.apart i j bi bj fi fj hij hi hj hr' hfi hfj
  · exact hoff B fun h => hnw ⟨id, b, f, hb, hrw, hf, h.symm⟩
  · unfold updM at hi
    by_cases hii : i = id
    · subst hii; simp only [if_true, Option.some.injEq] at hi; subst hi; exact .inl ⟨b, hb, fun h => h⟩
    · simp only [hii, if_false] at hi; exact .inl ⟨b', hi, fun h => h⟩

def setR (cs : Array Value) : Nat → List Value → Array Value
  | _, [] => cs
  | k, v :: vs => setR (cs.setIfInBounds k v) (k + 1) vs
theorem setR_size (vs : List Value) : ∀ (cs : Array Value) (k : Nat), (setR cs k vs).size = cs.size := by
  induction vs with
  | nil => intro cs k; rfl
  | cons v vs ih => intro cs k; simp [setR, ih]
theorem setR_get (vs : List Value) : ∀ (cs : Array Value) (k j : Nat), k + vs.length ≤ cs.size → (setR cs k vs)[j]? = if k ≤ j ∧ j < k + vs.length then vs[j - k]? else cs[j]? := by
  induction vs with
  | nil =>
    intro cs k j h
    rw [if_neg (by simp)]
    rfl
  | cons v vs ih =>
    intro cs k j h
    simp only [List.length_cons] at h
    simp only [setR, List.length_cons]
    rw [ih _ _ _ (by simp; omega)]
    by_cases h1 : k + 1 ≤ j ∧ j < k + 1 + vs.length
    · have h2 : k ≤ j ∧ j < k + (vs.length + 1) := by omega
      simp only [h1, h2, and_self, if_true]
      rw [show j - k = (j - (k + 1)) + 1 by omega, List.getElem?_cons_succ]
    · simp only [h1, if_false]
      by_cases hjk : j = k
      · subst hjk
        have h2 : j ≤ j ∧ j < j + (vs.length + 1) := by omega
        have : j < cs.size := by omega
        simp [h2, this]
      · have h2 : ¬ (k ≤ j ∧ j < k + (vs.length + 1)) := by omega
        simp only [h2, if_false]
        rw [Array.getElem?_setIfInBounds_ne (Ne.symm hjk)]

def oneCells (vs : List Value) : Bool := vs.all Value.oneCell'
theorem VR.one {v v' : Value} (h : VR P ρ v v') : v'.oneCell' = v.oneCell' := by cases h <;> rfl
theorem VL.ones {vs vs' : List Value} (h : VL P ρ vs vs') : oneCells vs' = oneCells vs := by
  induction h with
  | nil => rfl
  | cons h _ ih => simp only [oneCells, List.all_cons, h.one] at ih ⊢; rw [ih]

theorem modify_cells (heap : Array Obj) {B : Nat} {cs : Array Value} {e : TypeId} {fz : Nat × Nat} (h : heap[B]? = some (.cells cs e fz)) (g : Obj → Obj) : heap.modify B g = heap.setIfInBounds B (g (.cells cs e fz)) := by
  obtain ⟨hlt, hv⟩ := Array.getElem?_eq_some_iff.1 h
  apply Array.ext
  · simp
  · intro i h1 h2
    have h3 : i < heap.size := by simpa using h1
    rw [Array.getElem_modify, Array.getElem_setIfInBounds (hj := h3)]
    by_cases hi : B = i
    · subst hi; simp [hv]
    · simp [hi]
theorem set_same (heap : Array Obj) {B : Nat} {x : Obj} (h : heap[B]? = some x) : heap.setIfInBounds B x = heap := by
  obtain ⟨hlt, hv⟩ := Array.getElem?_eq_some_iff.1 h
  apply Array.ext
  · simp
  · intro i h1 h2
    rw [Array.getElem_setIfInBounds (hj := h2)]
    by_cases hi : B = i
    · subst hi; simp [hv]
    · simp [hi]

theorem run_storeCells_own {B o : Nat} {e : TypeId} {fz : Nat × Nat} : ∀ (vs : List Value) (i : Nat) (w : World) (cs : Array Value), w.heap[B]? = some (.cells cs e fz) → (fz = (0, 0) ∨ fz = (cs.size, cs.size + 1)) → o + i + vs.length ≤ cs.size → oneCells vs = true →
    (storeCells ⟨B, o, none⟩ vs i).run P w = .ok () { w with heap := w.heap.setIfInBounds B (.cells (setR cs (o + i) vs) e fz) } := by
  intro vs
  induction vs with
  | nil =>
    intro i w cs h _ _ _
    have := set_same w.heap h
    simp only [storeCells, setR, Sem.run_pure, this]
  | cons v vs ih =>
    intro i w cs h hfz hlen hone
    simp only [List.length_cons] at hlen
    simp only [oneCells, List.all_cons, Bool.and_eq_true] at hone
    have hc : w.cell? ⟨B, o + i, none⟩ = some (cs[o + i]'(by omega)) := by simp [World.cell?, h]
    have hfr : w.frozen? ⟨B, o + i, none⟩ = false := by
      simp only [World.frozen?, h]
      rcases hfz with rfl | rfl
      · simp
      · simp; omega
    simp only [storeCells, addr_add, Sem.run_bind, run_store P w _ v _ hone.1, hc, hfr, Bool.false_eq_true, if_false, Result.andThen_ok]
    have hset : w.setCell ⟨B, o + i, none⟩ v = { w with heap := w.heap.setIfInBounds B (.cells (cs.setIfInBounds (o + i) v) e fz) } := by
      simp only [World.setCell]
      rw [modify_cells w.heap h]
      simp
    rw [hset]
    have hlt := (Array.getElem?_eq_some_iff.1 h).1
    rw [ih (i + 1) _ (cs.setIfInBounds (o + i) v) (by simp [hlt]) (by simpa using hfz) (by simp; omega) hone.2]
    simp only [setR, Nat.add_assoc, Array.setIfInBounds_setIfInBounds]
end
end Go.Proofs.Ythheaehpnleiaaa.AX
