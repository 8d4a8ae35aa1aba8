/- The layer, tenth part: operations that read or write memory. -/
import Derived.Test.YthheaehpnleiaaaAxI
namespace Go.Proofs.Ythheaehpnleiaaa.AX
open Go
set_option linter.unusedVariables false
set_option linter.unusedSimpArgs false

/-! ### reading -/
def loadV (P : Program) (m : Mm) (t : TypeId) (x : Value) : Option Value := match x with
  | .pointer (some ⟨b, o, none⟩) => match m b, P.underlying t, P.info? t with
    | some blk, some d, some i => bif aggT d then (if o + i.size ≤ blk.cells.length then some (.agg ((blk.cells.drop o).take i.size).toArray) else none) else blk.cells[o]?
    | _, _, _ => none
  | _ => none
theorem run_loadVar {P : Program} {ρ : Emb} {m : Mm} {w : World} {t : TypeId} {x x' v : Value} (h : loadV P m t x = some v) (hx : VR P ρ x x') (hr : HR P ρ m w) :
    ∃ a v', x' = .pointer (some a) ∧ (loadVar t a).run P w = .ok v' w ∧ VR P ρ v v' := by
  unfold loadV at h
  split at h
  · rename_i b o
    cases hx with
    | ptr hf =>
      rename_i f
      split at h
      · rename_i blk d i h1 h2 h3
        obtain ⟨f', hf', hone⟩ := hr.one b blk h1
        rw [hf] at hf'; cases hf'
        cases hd : aggT d with
        | true =>
          simp only [hd, cond_true] at h
          split at h
          · rename_i hle
            cases h
            obtain ⟨vs, hl, hvl, hc⟩ := hone.range hle
            refine ⟨_, .agg vs.toArray, rfl, ?_, .agg hvl.vrs.1 hvl.vrs.2⟩
            have := run_loadCells_list (P := P) w ⟨f.blk, f.shift + o, none⟩ vs hc
            rw [hl] at this
            simp only [loadVar, Sem.run_bind, run_isAgg h2, hd, Result.andThen_ok, if_true, run_sizeOf' h3, this, Sem.run_pure]
          · cases h
        | false =>
          simp only [hd, cond_false] at h
          obtain ⟨v', hc, hv⟩ := hone.cell h
          refine ⟨_, v', rfl, ?_, hv⟩
          simp only [loadVar, Sem.run_bind, run_isAgg h2, hd, Result.andThen_ok, Bool.false_eq_true, if_false, run_load, hc]
      · cases h
  · cases h

def boundV (x : Option Value) (d y : Nat) : Option Nat := match x with
  | none => some d
  | some (.int _ i) => if 0 ≤ i ∧ i ≤ y then some i.toNat else none
  | _ => none
def sliceV (P : Program) (m : Mm) (t : TypeId) (x : Value) (lo hi mx : Option Value) : Option Value := match P.underlying t, x with
  | some .string, .string s => match mx, boundV hi s.size s.size with
    | none, some h => match boundV lo 0 h with
      | some l => some (.string (s.extract l h))
      | none => none
    | _, _ => none
  | some (.slice elem), .slice none 0 0 => match boundV mx 0 0, boundV hi 0 0, boundV lo 0 0 with
    | some _, some _, some _ => if mx.isSome && hi.isNone then none else match P.info? elem with
      | some _ => some (.slice none 0 0)
      | none => none
    | _, _, _ => none
  | some (.slice elem), .slice (some ⟨b, o, none⟩) len cap => match m b, P.info? elem with
    | some blk, some i => if P.cellsOf blk.elem = i.size ∧ ¬ (mx.isSome = true ∧ hi.isNone = true) then match boundV mx (if cap = unk then len else cap) (if cap = unk then len else cap) with
      | some mm => match boundV hi len mm with
        | some h => match boundV lo 0 h with
          | some l => some (.slice (some ⟨b, o + l * i.size, none⟩) (h - l) (if mx.isNone = true ∧ cap = unk then unk else mm - l))
          | none => none
        | none => none
      | none => none
      else none
    | _, _ => none
  | _, _ => none

/-- a bound's value, if it is there -/
inductive VO (P : Program) (ρ : Emb) : Option Value → Option Value → Prop
  | none : VO P ρ none none
  | some {v v' : Value} (h : VR P ρ v v') : VO P ρ (some v) (some v')

theorem run_boundV {P : Program} {ρ : Emb} {w : World} {x x' : Value} {d y y' n : Nat} {code : BoundsCode} (h : boundV (some x) d y = some n) (hx : VR P ρ x x') (hy : y ≤ y') :
    (Instr.sliceBound x' y' code).run P w = .ok n w ∧ n ≤ y := by
  cases hx <;> simp only [boundV] at h <;> try (cases h; done)
  rename_i k i
  split at h
  · rename_i hb
    cases h
    refine ⟨?_, by omega⟩
    simp only [Instr.sliceBound, asIntOf, Sem.run_bind, Sem.run_pure, Result.andThen_ok]
    rw [if_pos (by omega)]
    rfl
  · cases h

theorem run_sliceV {P : Program} {ρ : Emb} {m : Mm} {w : World} {t : TypeId} {x x' v : Value} {lo hi mx lo' hi' mx' : Option Value} (h : sliceV P m t x lo hi mx = some v) (hx : VR P ρ x x') (hr : HR P ρ m w)
    (hlo : VO P ρ lo lo') (hhi : VO P ρ hi hi') (hmx : VO P ρ mx mx') : ∃ v', (Instr.sliceAt t x' lo' hi' mx').run P w = .ok v' w ∧ VR P ρ v v' := by
  unfold sliceV at h
  split at h
  · rename_i s h1
    cases hx
    split at h
    · rename_i h2 hh
      split at h
      · rename_i l hl
        cases h
        cases hmx
        refine ⟨_, ?_, .string _⟩
        simp only [Instr.sliceAt, Instr.slice, Sem.run_bind, run_underlying h1, Result.andThen_ok, Option.isSome_none, Bool.false_eq_true, if_false, Instr.sliceBounds, Sem.run_pure]
        cases hhi with
        | none =>
          simp only [boundV, Option.some.injEq] at hh; subst hh
          cases hlo with
          | none => simp only [boundV, Option.some.injEq] at hl; subst hl; simp
          | some hv => simp [(run_boundV (w := w) (code := .sliceB) hl hv (Nat.le_refl _)).1]
        | some hv' =>
          simp only [Sem.run_bind]
          rw [(run_boundV (w := w) (code := .sliceAlen) hh hv' (Nat.le_refl _)).1]
          cases hlo with
          | none => simp only [boundV, Option.some.injEq] at hl; subst hl; simp
          | some hv => simp [(run_boundV (w := w) (code := .sliceB) hl hv (Nat.le_refl _)).1]
      · cases h
    · cases h
  · rename_i elem h1
    cases hx
    split at h
    · rename_i a b c ha hb hc
      split at h
      · cases h
      · rename_i hno
        split at h
        · rename_i i hi0
          cases h
          refine ⟨.slice none 0 0, ?_, .nils⟩
          simp only [Instr.sliceAt, Instr.slice, Sem.run_bind, run_underlying h1, Result.andThen_ok, Instr.sliceBounds]
          cases hmx with
          | none =>
            cases hhi with
            | none =>
              cases hlo with
              | none => simp [run_sizeOf' hi0]
              | some hv => have := run_boundV (w := w) (code := .sliceB) hc hv (Nat.le_refl _); simp [this.1, run_sizeOf' hi0, show c = 0 by omega]
            | some hv' =>
              have e1 := run_boundV (w := w) (code := .sliceAcap) hb hv' (Nat.le_refl _)
              have e0 : b = 0 := by omega
              subst e0
              cases hlo with
              | none => simp [e1.1, run_sizeOf' hi0]
              | some hv => have := run_boundV (w := w) (code := .sliceB) hc hv (Nat.le_refl _); simp [e1.1, this.1, run_sizeOf' hi0, show c = 0 by omega]
          | some hv'' =>
            have e2 := run_boundV (w := w) (code := .slice3Acap) ha hv'' (Nat.le_refl _)
            have e3 : a = 0 := by omega
            subst e3
            cases hhi with
            | none => simp at hno
            | some hv' =>
              have e1 := run_boundV (w := w) (code := .slice3B) hb hv' (Nat.le_refl _)
              have e0 : b = 0 := by omega
              subst e0
              cases hlo with
              | none => simp [e1.1, e2.1, run_sizeOf' hi0]
              | some hv => have := run_boundV (w := w) (code := .slice3C) hc hv (Nat.le_refl _); simp [e1.1, e2.1, this.1, run_sizeOf' hi0, show c = 0 by omega]
        · cases h
    · cases h
  · rename_i elem b o len cap h1
    cases hx with
    | slice hf hn hc hp hroom hsp =>
      rename_i c' p sp f
      split at h
      · rename_i blk i h2 h3
        obtain ⟨f', hf', hone⟩ := hr.one b blk h2
        rw [hf] at hf'; cases hf'
        split at h
        · rename_i hcond
          obtain ⟨hsz, hno⟩ := hcond
          have hz : P.cellsOf f.elem = i.size := by rw [hone.elem]; exact hsz
          rw [hz] at hroom
          have htop : (if cap = unk then len else cap) ≤ c' := by split <;> omega
          split at h
          · rename_i mm hmm
            split at h
            · rename_i hh hhh
              split at h
              · rename_i l hl
                cases h
                -- the three bounds in the machine's run
                have bm : ∃ mc, mm ≤ mc ∧ (mx = none → mc = c' ∧ mm = (if cap = unk then len else cap)) ∧ (mx ≠ none → mc = mm ∧ mm ≤ (if cap = unk then len else cap)) ∧ hh ≤ mc ∧ (l ≤ hh) ∧
                    (Instr.sliceBounds true len c' lo' hi' mx').run P w = .ok (l, hh, mc) w := by
                  simp only [Instr.sliceBounds]
                  cases hmx with
                  | none =>
                    simp only [boundV, Option.some.injEq] at hmm
                    refine ⟨c', by omega, fun _ => ⟨rfl, hmm.symm⟩, fun h => absurd rfl h, ?_⟩
                    cases hhi with
                    | none =>
                      simp only [boundV, Option.some.injEq] at hhh; subst hhh
                      cases hlo with
                      | none => simp only [boundV, Option.some.injEq] at hl; subst hl; simp; exact hn
                      | some hv => have e := run_boundV (w := w) (code := .sliceB) hl hv (Nat.le_refl _); simp [e.1, e.2]; exact hn
                    | some hv' =>
                      have e1 := run_boundV (w := w) (code := .sliceAcap) hhh hv' (show mm ≤ c' by omega)
                      cases hlo with
                      | none => simp only [boundV, Option.some.injEq] at hl; subst hl; simp [e1.1]; omega
                      | some hv => have e := run_boundV (w := w) (code := .sliceB) hl hv (Nat.le_refl _); simp [e1.1, e.1, e.2]; omega
                  | some hv'' =>
                    have e2 := run_boundV (w := w) (code := .slice3Acap) hmm hv'' htop
                    refine ⟨mm, Nat.le_refl _, fun h => (by cases h), fun _ => ⟨rfl, e2.2⟩, ?_⟩
                    cases hhi with
                    | none => simp at hno
                    | some hv' =>
                      have e1 := run_boundV (w := w) (code := .slice3B) hhh hv' (Nat.le_refl _)
                      cases hlo with
                      | none => simp only [boundV, Option.some.injEq] at hl; subst hl; simp [e1.1, e2.1]; omega
                      | some hv => have e := run_boundV (w := w) (code := .slice3C) hl hv (Nat.le_refl _); simp [e1.1, e2.1, e.1, e.2]; omega
                obtain ⟨mc, q1, q2, q3, q4, q5, q6⟩ := bm
                have hmc : mc ≤ c' := by
                  cases hmx with
                  | none => have := (q2 rfl).1; omega
                  | some _ => have := q3 (by simp); omega
                refine ⟨.slice (some (if mc = l then ⟨f.blk, p, sp⟩ else ⟨f.blk, p + l * i.size, none⟩)) (hh - l) (mc - l), ?_, ?_⟩
                · simp only [Instr.sliceAt, Instr.slice, Sem.run_bind, run_underlying h1, Result.andThen_ok, q6, run_sizeOf' h3, Sem.run_pure]
                  split
                  · rfl
                  · obtain rfl := hsp (by omega)
                    simp [addr_add]
                · have hexp : (if mx.isNone = true ∧ cap = unk then unk else mm - l) = mc - l ∨ (if mx.isNone = true ∧ cap = unk then unk else mm - l) = unk := by
                    cases hmx with
                    | none =>
                      obtain ⟨r1, r2⟩ := q2 rfl
                      by_cases hcu : cap = unk
                      · exact .inr (by simp [hcu])
                      · refine .inl ?_
                        simp only [hcu, and_false, if_false] at r2 ⊢
                        rcases hc with rfl | hc
                        · omega
                        · exact absurd hc hcu
                    | some _ => obtain ⟨r1, r2⟩ := q3 (by simp); exact .inl (by simp; omega)
                  have hmul : p + l * i.size + (mc - l) * i.size ≤ f.room := by
                    have : (l + (mc - l)) * i.size ≤ c' * i.size := Nat.mul_le_mul_right _ (by omega)
                    rw [Nat.add_mul] at this; omega
                  by_cases hml : mc = l
                  · rw [if_pos hml]
                    refine .slice hf (by omega) hexp ?_ (by rw [hz, show mc - l = 0 by omega]; omega) (by omega)
                    rintro (h0 | ⟨h0, h0'⟩)
                    · omega
                    · rcases hexp with h | h
                      · omega
                      · exact absurd h h0
                  · rw [if_neg hml]
                    refine .slice hf (by omega) hexp ?_ (by rw [hz]; omega) (fun _ => rfl)
                    intro hcase
                    have : p = f.shift + o := by
                      apply hp
                      by_cases hl0 : 0 < len
                      · exact .inl hl0
                      · refine .inr ?_
                        have hcu : cap ≠ unk := by
                          rintro rfl
                          simp only [if_true] at htop q2 q3
                          have hmm0 : mm = 0 := by
                            cases hmx with
                            | none => have := (q2 rfl).2; omega
                            | some _ => have := (q3 (by simp)).2; omega
                          have hh0 : hh = 0 := by
                            cases hhi with
                            | none => simp only [boundV, Option.some.injEq] at hhh; omega
                            | some hv => have := (run_boundV (w := w) (code := .slice3B) hhh hv (Nat.le_refl _)).2; omega
                          rcases hcase with h | ⟨h, h'⟩
                          · omega
                          · cases hmx with
                            | none => simp at h
                            | some _ => simp at h'; omega
                        refine ⟨hcu, ?_⟩
                        rcases hc with rfl | hc
                        · omega
                        · exact absurd hc hcu
                    omega
              · cases h
            · cases h
          · cases h
        · cases h
      · cases h
  · cases h
end Go.Proofs.Ythheaehpnleiaaa.AX
