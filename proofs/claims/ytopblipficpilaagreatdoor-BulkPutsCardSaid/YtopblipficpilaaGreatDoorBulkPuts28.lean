/- From what was handed in to the layer: values and rows as they lie in the world, as values and read-only blocks. -/
import Derived.Test.YtopblipficpilaaGreatDoorBulkPuts5
import Derived.Deep.Slices
import Derived.ChangeSame
import Derived.ChangeArms
import Derived.Below
namespace Go.Proofs.YtopblipficpilaaGreatDoor.AY
open Go Go.RowKit Go.ChangeShapes Go.WideShapes Go.Deep
set_option linter.unusedVariables false
set_option linter.unusedSimpArgs false

/-- which values are of a type: their cells, and the blocks that their rows lie in -/
inductive Sh (P : Program) (M : Mem) : TypeId → List Value → Prop
  | int {t : TypeId} {k : IntKind} {n : Int} (ht : P.underlying t = some (.int k)) (hw : (Lit.int k n).wf = true) : Sh P M t [.int k n]
  | bool {t : TypeId} {b : Bool} (ht : P.underlying t = some .bool) : Sh P M t [.bool b]
  | string {t : TypeId} {s : ByteArray} (ht : P.underlying t = some .string) (hs : s.size ≤ maxLen) : Sh P M t [.string s]
  | nils {t e : TypeId} (ht : P.underlying t = some (.slice e)) : Sh P M t [.slice none 0 0]
  | empty {t e : TypeId} {b : Nat} (ht : P.underlying t = some (.slice e)) (hb : b < M.next) : Sh P M t [.slice (some ⟨b, 0, none⟩) 0 unk]
  | slice {t e : TypeId} {b n : Nat} {cells : List Value} (ht : P.underlying t = some (.slice e)) (hb : Has M b ⟨cells, e, false⟩) (hl : cells.length = n * P.cellsOf e) (hn : n ≤ maxLen)
      (h : ∀ i, i < n → Sh P M e ((cells.drop (i * P.cellsOf e)).take (P.cellsOf e))) : Sh P M t [.slice (some ⟨b, 0, none⟩) n unk]
  | struct {t : TypeId} {fs : Array Field} {cells : List Value} (ht : P.underlying t = some (.struct fs)) (hl : cells.length = P.cellsOf t)
      (h : ∀ (i : Nat) (f : Field), fs[i]? = some f → Sh P M f.type ((cells.drop f.offset).take (P.cellsOf f.type))) : Sh P M t cells
theorem Sh.grew {P : Program} {M M1 : Mem} {t : TypeId} {cells : List Value} (h : Sh P M t cells) (hg : Grew M M1) : Sh P M1 t cells := by
  induction h with
  | int ht hw => exact .int ht hw
  | bool ht => exact .bool ht
  | string ht hs => exact .string ht hs
  | nils ht => exact .nils ht
  | empty ht hb => exact .empty ht (Nat.lt_of_lt_of_le hb hg.next)
  | slice ht hb hl hn _ ih => exact .slice ht (hb.grew hg) hl hn ih
  | struct ht hl _ ih => exact .struct ht hl ih

/-- parts that lie one behind the other, from o on -/
def tiles (P : Program) : List (TypeId × Nat) → Nat → Option Nat
  | [], o => some o
  | p :: ps, o => bif Nat.beq p.2 o then tiles P ps (o + P.cellsOf p.1) else none
def fieldsOf (fs : Array Field) : List (TypeId × Nat) := fs.toList.map fun f => (f.type, f.offset)
/-- types whose values are told by their cells and by rows -/
def goodT (P : Program) : Nat → TypeId → Bool
  | 0, _ => false
  | n + 1, t => match P.underlying t with
    | some .bool => true
    | some (.int _) => true
    | some .string => true
    | some (.slice e) => (!(Nat.beq (P.cellsOf e) 0) && !(isObj e)) && goodT P n e
    | some (.struct fs) => (match tiles P (fieldsOf fs) 0 with | some x => Nat.beq x (P.cellsOf t) | none => false) && fs.toList.all fun f => goodT P n f.type
    | _ => false

structure Good (P : Program) (w : World) (ρ : Emb) (M : Mem) : Prop where
  hr : HR P ρ M.get w
  free : Free ρ M.next
  ok : Ok M
  ro : ∀ i b, M.get i = some b → b.rw = false
theorem Good.start (P : Program) (w : World) : Good P w (fun _ => none) ⟨0, .nil⟩ :=
  ⟨⟨fun i b hi => (by cases hi), fun i j bi bj fi fj _ hi => (by cases hi)⟩, fun _ _ => rfl, fun i b hi => (by cases hi), fun i b hi => (by cases hi)⟩

/-- these cells can be told in the layer -/
def Reif (P : Program) (w : World) (t : TypeId) (cs : List Value) : Prop :=
  ∀ ρ M, Good P w ρ M → ∃ ρ' M' acs, Sub ρ ρ' ∧ Grew M M' ∧ Good P w ρ' M' ∧ VL P ρ' acs cs ∧ Sh P M' t acs

theorem VL.sub {P : Program} {ρ ρ' : Emb} {l l' : List Value} (h : VL P ρ l l') (hs : Sub ρ ρ') : VL P ρ' l l' := by
  induction h with
  | nil => exact .nil
  | cons h _ ih => exact .cons (h.mono hs) ih

theorem tiles_le {P : Program} : ∀ {ps : List (TypeId × Nat)} {o x : Nat}, tiles P ps o = some x → o ≤ x ∧ ∀ p, p ∈ ps → o ≤ p.2 := by
  intro ps
  induction ps with
  | nil => intro o x h; simp only [tiles, Option.some.injEq] at h; exact ⟨by omega, by simp⟩
  | cons p ps ih =>
    intro o x h
    simp only [tiles, beq_iff, Bool.cond_decide] at h
    split at h
    · rename_i hp
      obtain ⟨h1, h2⟩ := ih h
      exact ⟨by omega, fun q hq => by
        rcases List.mem_cons.1 hq with rfl | hq
        · omega
        · have := h2 q hq; omega⟩
    · cases h

theorem Reif.parts {P : Program} {w : World} : ∀ (ps : List (TypeId × Nat)) (o x : Nat) (cs : List Value), tiles P ps o = some x → o + cs.length = x →
    (∀ p, p ∈ ps → Reif P w p.1 ((cs.drop (p.2 - o)).take (P.cellsOf p.1))) → ∀ ρ M, Good P w ρ M →
    ∃ ρ' M' acs, Sub ρ ρ' ∧ Grew M M' ∧ Good P w ρ' M' ∧ VL P ρ' acs cs ∧ ∀ p, p ∈ ps → Sh P M' p.1 ((acs.drop (p.2 - o)).take (P.cellsOf p.1)) := by
  intro ps
  induction ps with
  | nil =>
    intro o x cs ht hl _ ρ M hg
    simp only [tiles, Option.some.injEq] at ht
    have : cs = [] := List.eq_nil_of_length_eq_zero (by omega)
    subst this
    exact ⟨ρ, M, [], Sub.refl ρ, Grew.refl M, hg, .nil, by simp⟩
  | cons p ps ih =>
    intro o x cs ht hl hr ρ M hg
    simp only [tiles, beq_iff, Bool.cond_decide] at ht
    split at ht
    · rename_i hp
      obtain ⟨h1, h2⟩ := tiles_le ht
      have hr0 := hr p List.mem_cons_self
      rw [show p.2 - o = 0 by omega, List.drop_zero] at hr0
      obtain ⟨ρ1, M1, a1, s1, g1, d1, v1, sh1⟩ := hr0 ρ M hg
      obtain ⟨ρ2, M2, a2, s2, g2, d2, v2, sh2⟩ := ih (o + P.cellsOf p.1) x (cs.drop (P.cellsOf p.1)) ht (by rw [List.length_drop]; omega) (fun q hq => by
        have := hr q (List.mem_cons_of_mem _ hq)
        have h3 := h2 q hq
        rw [List.drop_drop, show P.cellsOf p.1 + (q.2 - (o + P.cellsOf p.1)) = q.2 - o by omega]
        exact this) ρ1 M1 d1
      have hlen : a1.length = P.cellsOf p.1 := by rw [v1.length, List.length_take]; omega
      refine ⟨ρ2, M2, a1 ++ a2, s1.trans s2, g1.trans g2, d2, ?_, fun q hq => ?_⟩
      · have := (v1.sub s2).append v2
        rwa [List.take_append_drop] at this
      · rcases List.mem_cons.1 hq with rfl | hq
        · rw [show q.2 - o = 0 by omega, List.drop_zero, List.take_append_of_le_length (by omega), List.take_of_length_le (by omega)]
          exact sh1.grew g2
        · have := sh2 q hq
          have h3 := h2 q hq
          rw [show q.2 - o = a1.length + (q.2 - (o + P.cellsOf p.1)) by omega, ← List.drop_drop, List.drop_left]
          exact this
    · cases ht

def elsOf (e : TypeId) (sz : Nat) : Nat → Nat → List (TypeId × Nat)
  | _, 0 => []
  | k, n + 1 => (e, k) :: elsOf e sz (k + sz) n
theorem elsOf_tiles {P : Program} {e : TypeId} : ∀ (n k : Nat), tiles P (elsOf e (P.cellsOf e) k n) k = some (k + n * P.cellsOf e) := by
  intro n
  induction n with
  | zero => intro k; simp [elsOf, tiles]
  | succ n ih => intro k; simp only [elsOf, tiles, beq_iff, decide_true, cond_true, ih]; congr 1; rw [Nat.succ_mul]; omega
theorem elsOf_mem {e : TypeId} {sz : Nat} : ∀ {n k : Nat} {p : TypeId × Nat}, p ∈ elsOf e sz k n → ∃ i, i < n ∧ p = (e, k + i * sz) := by
  intro n
  induction n with
  | zero => intro k p h; simp [elsOf] at h
  | succ n ih =>
    intro k p h
    simp only [elsOf, List.mem_cons] at h
    rcases h with rfl | h
    · exact ⟨0, by omega, by simp⟩
    · obtain ⟨i, hi, rfl⟩ := ih h
      exact ⟨i + 1, by omega, by rw [Nat.succ_mul]; congr 1; omega⟩
theorem elsOf_has {e : TypeId} {sz : Nat} : ∀ {n k i : Nat}, i < n → (e, k + i * sz) ∈ elsOf e sz k n := by
  intro n
  induction n with
  | zero => intro k i h; omega
  | succ n ih =>
    intro k i h
    cases i with
    | zero => simp [elsOf]
    | succ i =>
      have := ih (k := k + sz) (i := i) (by omega)
      rw [show k + (i + 1) * sz = k + sz + i * sz by rw [Nat.succ_mul]; omega]
      exact List.mem_cons_of_mem _ this

/-- a read-only block more -/
theorem Good.block {P : Program} {w : World} {ρ : Emb} {M : Mem} (hg : Good P w ρ M) {B off : Nat} {c : Array Value} {el e : TypeId} {fz : Nat × Nat} (hb : w.heap[B]? = some (.cells c el fz)) {cells : List Value} (hl : off + cells.length ≤ c.size) (ho : isObj e = false)
    (hv : VL P ρ cells ((c.toList.drop off).take cells.length)) :
    ∃ ρ' M', Sub ρ ρ' ∧ Grew M M' ∧ Good P w ρ' M' ∧ Has M' M.next ⟨cells, e, false⟩ ∧ ρ' M.next = some ⟨B, off, c.size, e⟩ := by
  have hid : ρ M.next = none := hg.free _ (Nat.le_refl _)
  have hsub : Sub ρ (updE ρ M.next ⟨B, off, c.size, e⟩) := fun i f hf => by
    unfold updE
    have : i ≠ M.next := by rintro rfl; rw [hid] at hf; cases hf
    simp [this, hf]
  have hlt : M.next < (M.bump 1).next := Nat.lt_succ_self _
  have hgrew := ((Grew.refl M).bump 1).put (Nat.le_refl _) hlt ⟨cells, e, false⟩
  refine ⟨updE ρ M.next ⟨B, off, c.size, e⟩, (M.bump 1).put M.next ⟨cells, e, false⟩, hsub, hgrew, ⟨⟨fun i b hi => ?_, fun i j bi bj fi fj _ hi _ hrw => ?_⟩, fun i hi => ?_, hgrew.ok hg.ok, fun i b hi => ?_⟩, Has.put hlt _ ho, by simp [updE]⟩
  · rw [Mem.get_put] at hi
    by_cases hii : i = M.next
    · rw [if_pos hii] at hi
      cases hi
      refine ⟨⟨B, off, c.size, e⟩, by simp [updE, hii], rfl, .inl ⟨ho, hl, c, el, fz, hb, rfl, fun h => (by cases h), fun o v hov => ?_⟩, fun g hge => noglob ho g hge⟩
      obtain ⟨v', h1, h2⟩ := hv.at o v hov
      rw [List.getElem?_take, List.getElem?_drop] at h1
      split at h1
      · exact ⟨v', by simpa using h1, h2.mono hsub⟩
      · cases h1
    · rw [if_neg hii] at hi
      obtain ⟨f, hf, ho⟩ := hg.hr.one i b hi
      exact ⟨f, hsub i f hf, ho.mono hsub rfl⟩
  · rw [Mem.get_put] at hi
    by_cases hii : i = M.next
    · rw [if_pos hii] at hi; cases hi; cases hrw
    · rw [if_neg hii] at hi
      have := hg.ro i bi hi
      rw [this] at hrw; cases hrw
  · unfold updE
    have : i ≠ M.next := by simp only [Mem.next_put, Mem.next_bump] at hi; omega
    rw [if_neg this]
    exact hg.free i (by simp only [Mem.next_put, Mem.next_bump] at hi; omega)
  · rw [Mem.get_put] at hi
    by_cases hii : i = M.next
    · rw [if_pos hii] at hi; cases hi; rfl
    · rw [if_neg hii] at hi; exact hg.ro i b hi
/-- a number more that no block has -/
theorem Good.point {P : Program} {w : World} {ρ : Emb} {M : Mem} (hg : Good P w ρ M) (f : Inf) : ∃ ρ' M', Sub ρ ρ' ∧ Grew M M' ∧ Good P w ρ' M' ∧ M.next < M'.next ∧ ρ' M.next = some f := by
  have hid : ρ M.next = none := hg.free _ (Nat.le_refl _)
  have hsub : Sub ρ (updE ρ M.next f) := fun i g hf => by
    unfold updE
    have : i ≠ M.next := by rintro rfl; rw [hid] at hf; cases hf
    simp [this, hf]
  have hgrew := (Grew.refl M).bump 1
  have hnone : ∀ i b, M.get i = some b → i ≠ M.next := fun i b hi => by have := hg.ok i b hi; omega
  refine ⟨updE ρ M.next f, M.bump 1, hsub, hgrew, ⟨⟨fun i b hi => ?_, fun i j bi bj fi fj _ hi _ hrw => ?_⟩, fun i hi => ?_, hgrew.ok hg.ok, hg.ro⟩, Nat.lt_succ_self _, by simp [updE]⟩
  · obtain ⟨g, hf, ho⟩ := hg.hr.one i b hi
    exact ⟨g, hsub i g hf, ho.mono hsub rfl⟩
  · rw [hg.ro i bi hi] at hrw; cases hrw
  · unfold updE
    have : i ≠ M.next := by simp only [Mem.next_bump] at hi; omega
    rw [if_neg this]
    exact hg.free i (by simp only [Mem.next_bump] at hi; omega)

theorem cell_block {w : World} {a : Addr} {v : Value} (h : w.cell? a = some v) : ∃ c el fz, w.heap[a.block]? = some (.cells c el fz) ∧ a.spot = none ∧ c[a.off]? = some v := by
  unfold World.cell? at h
  split at h
  · rename_i c el fz hc
    split at h
    · cases h
    · rename_i hs; exact ⟨c, el, fz, hc, by simpa using hs, h⟩
  · cases h
theorem cell_at {w : World} {B o : Nat} {sp : Option Nat} {c : Array Value} {el : TypeId} {fz : Nat × Nat} (h : w.heap[B]? = some (.cells c el fz)) (hs : sp = none) : w.cell? ⟨B, o, sp⟩ = c[o]? := by
  subst hs; simp [World.cell?, h]

theorem reify {H : Type} {enc : TypeId × Value → H} {P : Program} {w : World} {base : Nat} {held : Bool} : ∀ (n : Nat) (t : TypeId), goodT P n t = true → ∀ (fuel : Nat) (cs : List Value) (x : DataW H × List MemPlace),
    DataW.trod enc P w base (fun _ => true) held fuel t cs = some x → Reif P w t cs := by
  intro n
  induction n with
  | zero => intro t h; simp [goodT] at h
  | succ n ih =>
    intro t hgood fuel cs x hx ρ M hg
    unfold goodT at hgood
    split at hgood
    · rename_i ht
      obtain ⟨b, rfl, _⟩ := DataW.trod_bool ht hx
      exact ⟨ρ, M, _, Sub.refl ρ, Grew.refl M, hg, .cons (.bool b) .nil, .bool ht⟩
    · rename_i k ht
      obtain ⟨z, rfl, _, hw⟩ := DataW.trod_int ht hx
      exact ⟨ρ, M, _, Sub.refl ρ, Grew.refl M, hg, .cons (.int k z) .nil, .int ht hw⟩
    · rename_i ht
      obtain ⟨s, rfl, _, hs⟩ := DataW.trod_string ht hx
      exact ⟨ρ, M, _, Sub.refl ρ, Grew.refl M, hg, .cons (.string s) .nil, .string ht hs⟩
    · rename_i e ht
      simp only [beq_iff, Bool.and_eq_true, Bool.not_eq_true', decide_eq_false_iff_not] at hgood
      obtain ⟨⟨hsz, hobj⟩, hge⟩ := hgood
      rcases open_slice ht hx with ⟨rfl, _⟩ | ⟨a, len, cap, m, nf, D, Pl, rfl, _, hlc, hcm, hm, _, hel⟩
      · exact ⟨ρ, M, _, Sub.refl ρ, Grew.refl M, hg, .cons .nils .nil, .nils ht⟩
      · simp only [if_true] at hm
        subst hm
        have hspot : 0 < m → a.spot = none ∧ ∃ c el fz, w.heap[a.block]? = some (.cells c el fz) ∧ a.off + m * P.cellsOf e ≤ c.size := by
          intro h0
          obtain ⟨cs', h1, _⟩ := hel (m - 1) (by omega)
          obtain ⟨_, hlen, hcell⟩ := World.cells?_some h1
          have hlast := hcell (P.cellsOf e - 1) (by omega)
          rw [List.getElem?_eq_getElem (by omega), Go.Deep.add_add] at hlast
          obtain ⟨c, el, fz, h2, h3, h4⟩ := cell_block hlast
          rw [show (a.add ((m - 1) * P.cellsOf e + (P.cellsOf e - 1))).block = a.block from by unfold Addr.add; split <;> rfl] at h2
          have h5 := (Array.getElem?_eq_some_iff.1 h4).1
          have h6 : (m - 1) * P.cellsOf e + P.cellsOf e = m * P.cellsOf e := by rw [← Nat.succ_mul]; congr 1; omega
          refine ⟨?_, c, el, fz, h2, ?_⟩
          · obtain ⟨cs0, g1, _⟩ := hel 0 h0
            obtain ⟨_, glen, gcell⟩ := World.cells?_some g1
            have g2 := gcell 0 (by omega)
            rw [List.getElem?_eq_getElem (by omega), Go.Deep.add_add] at g2
            have g3 : a.add (0 * P.cellsOf e + 0) = a := by unfold Addr.add; simp
            rw [g3] at g2
            exact (cell_block g2).choose_spec.choose_spec.choose_spec.2.1
          · unfold Addr.add at h5
            split at h5
            · rename_i h7; omega
            · simp only at h5; omega
        by_cases hl0 : len = 0
        · subst hl0
          obtain ⟨ρ1, M1, s1, g1, d1, l1, e1⟩ := hg.point ⟨a.block, a.off, a.off + m * P.cellsOf e, e⟩
          refine ⟨ρ1, M1, [.slice (some ⟨M.next, 0, none⟩) 0 unk], s1, g1, d1, .cons ?_ .nil, .empty ht l1⟩
          obtain ⟨ab, ao, asp⟩ := a
          refine VR.slice e1 hlc (.inr rfl) (fun h => ?_) (Nat.le_refl _) (fun h => (hspot h).1)
          rcases h with h | h
          · omega
          · exact absurd rfl h.1
        · obtain ⟨hsp, c, el, fz, hb, hroom⟩ := hspot (by omega)
          obtain ⟨ab, ao, asp⟩ := a
          simp only at hsp hb hroom
          subst hsp
          have hle : len * P.cellsOf e ≤ m * P.cellsOf e := Nat.mul_le_mul_right _ hlc
          have hcl : ((c.toList.drop ao).take (len * P.cellsOf e)).length = len * P.cellsOf e := by rw [List.length_take, List.length_drop, Array.length_toList]; omega
          obtain ⟨ρ1, M1, acs, s1, g1, d1, v1, sh1⟩ := Reif.parts (P := P) (w := w) (elsOf e (P.cellsOf e) 0 len) 0 _ ((c.toList.drop ao).take (len * P.cellsOf e)) (elsOf_tiles len 0) (by rw [hcl]) (fun p hp => by
            obtain ⟨i, hi, rfl⟩ := elsOf_mem hp
            obtain ⟨cs', h1, h2⟩ := hel i (by omega)
            obtain ⟨_, hlen, hcell⟩ := World.cells?_some h1
            have hii : i * P.cellsOf e + P.cellsOf e ≤ len * P.cellsOf e := by rw [← Nat.succ_mul]; exact Nat.mul_le_mul_right _ hi
            have : (((c.toList.drop ao).take (len * P.cellsOf e)).drop (0 + i * P.cellsOf e - 0)).take (P.cellsOf e) = cs' := by
              apply List.ext_getElem?
              intro j
              rw [List.getElem?_take, List.getElem?_drop, List.getElem?_take, List.getElem?_drop]
              by_cases hj : j < P.cellsOf e
              · rw [if_pos hj, if_pos (by omega), ← hcell j hj, Go.Deep.add_add]
                have hadd : (⟨ab, ao, none⟩ : Addr).add (i * P.cellsOf e + j) = ⟨ab, ao + (i * P.cellsOf e + j), none⟩ := addr_add _ _ _
                rw [hadd, cell_at hb rfl, Array.getElem?_toList]
                congr 1; omega
              · rw [if_neg hj, List.getElem?_eq_none (by omega)]
            simp only at this ⊢
            rw [this]
            exact ih e hge _ _ _ h2) ρ M hg
          have hal : acs.length = len * P.cellsOf e := by rw [v1.length, hcl]
          obtain ⟨ρ2, M2, s2, g2, d2, hh, e2⟩ := d1.block (e := e) hb (cells := acs) (off := ao) (by omega) hobj (by rw [hal]; exact v1)
          refine ⟨ρ2, M2, [.slice (some ⟨M1.next, 0, none⟩) len unk], s1.trans s2, g1.trans g2, d2, .cons ?_ .nil, .slice ht hh hal (by omega) fun i hi => ?_⟩
          · exact VR.slice e2 hlc (.inr rfl) (fun _ => rfl) hroom (fun _ => rfl)
          · have := sh1 _ (elsOf_has hi)
            simp only [Nat.zero_add, Nat.sub_zero] at this
            exact this.grew g2
    · rename_i fs ht
      simp only [Bool.and_eq_true] at hgood
      obtain ⟨htile, hall⟩ := hgood
      obtain ⟨xs, k, _, _, hl, hlen, hf⟩ := DataW.trod_struct ht hx
      split at htile
      · rename_i x' htx
        simp only [beq_iff, decide_eq_true_eq] at htile
        subst htile
        have hmem : ∀ p, p ∈ fieldsOf fs → ∃ (i : Nat) (f : Field), fs[i]? = some f ∧ p = (f.type, f.offset) := by
          intro p hp
          obtain ⟨f, hfm, rfl⟩ := List.mem_map.1 hp
          obtain ⟨i, hi, rfl⟩ := List.mem_iff_getElem.1 hfm
          exact ⟨i, _, by simp at hi; simp [hi], rfl⟩
        obtain ⟨ρ1, M1, acs, s1, g1, d1, v1, sh1⟩ := Reif.parts (P := P) (w := w) (fieldsOf fs) 0 _ cs htx (by omega) (fun p hp => by
          obtain ⟨i, f, hi, rfl⟩ := hmem p hp
          have h1 := hf i f hi
          have h2 : goodT P n f.type = true := List.all_eq_true.1 hall f (by
            obtain ⟨h3, h4⟩ := Array.getElem?_eq_some_iff.1 hi
            rw [← h4]; simp)
          rcases hxi : xs[i]? with _ | y
          · rw [hxi] at h1; first | exact absurd h1 (by simp) | (exfalso; have := List.getElem?_eq_none_iff.1 hxi; have := (Array.getElem?_eq_some_iff.1 hi).1; omega)
          · rw [hxi] at h1
            exact ih f.type h2 _ _ _ h1) ρ M hg
        refine ⟨ρ1, M1, acs, s1, g1, d1, v1, .struct ht (by rw [v1.length, hl]) fun i f hi => ?_⟩
        have := sh1 (f.type, f.offset) (List.mem_map.2 ⟨f, by
            obtain ⟨h3, h4⟩ := Array.getElem?_eq_some_iff.1 hi
            rw [← h4]; simp, rfl⟩)
        simpa using this
      · cases htile
    · cases hgood
end Go.Proofs.YtopblipficpilaaGreatDoor.AY
