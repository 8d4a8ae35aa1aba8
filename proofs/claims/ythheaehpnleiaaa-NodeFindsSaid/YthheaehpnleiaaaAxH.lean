/- The layer, eighth part: more operations that leave the memory as it is. -/
import Derived.Test.YthheaehpnleiaaaAxG
import Derived.Laws.Slices
namespace Go.Proofs.Ythheaehpnleiaaa.AX
open Go
set_option linter.unusedVariables false
set_option linter.unusedSimpArgs false

def evL (ev : Operand → Option Value) : List Operand → Option (List Value)
  | [] => some []
  | x :: xs => match ev x, evL ev xs with
    | some v, some vs => some (v :: vs)
    | _, _ => none
def evP (ev : Operand → Option Value) : List (Nat × Operand) → Option (List (Nat × Value))
  | [] => some []
  | (i, x) :: xs => match ev x, evP ev xs with
    | some v, some vs => some ((i, v) :: vs)
    | _, _ => none

/-- lists, place by place -/
inductive VL (P : Program) (ρ : Emb) : List Value → List Value → Prop
  | nil : VL P ρ [] []
  | cons {v v' : Value} {l l' : List Value} (h : VR P ρ v v') (h' : VL P ρ l l') : VL P ρ (v :: l) (v' :: l')
inductive VP (P : Program) (ρ : Emb) : List (Nat × Value) → List (Nat × Value) → Prop
  | nil : VP P ρ [] []
  | cons {i : Nat} {v v' : Value} {l l' : List (Nat × Value)} (h : VR P ρ v v') (h' : VP P ρ l l') : VP P ρ ((i, v) :: l) ((i, v') :: l')

theorem VL.length {P : Program} {ρ : Emb} {l l' : List Value} (h : VL P ρ l l') : l.length = l'.length := by induction h <;> simp_all
theorem VL.get {P : Program} {ρ : Emb} {l l' : List Value} (h : VL P ρ l l') : ∀ {i : Nat} {v v' : Value}, l[i]? = some v → l'[i]? = some v' → VR P ρ v v' := by
  induction h with
  | nil => intro i v v' h; simp at h
  | cons h h' ih =>
    intro i v v' hv hv'
    cases i with
    | zero => simp at hv hv'; subst hv; subst hv'; exact h
    | succ i => simp at hv hv'; exact ih hv hv'
theorem VL.of_get {P : Program} {ρ : Emb} : ∀ {l l' : List Value}, l.length = l'.length → (∀ (i : Nat) (v v' : Value), l[i]? = some v → l'[i]? = some v' → VR P ρ v v') → VL P ρ l l'
  | [], [], _, _ => .nil
  | [], _ :: _, h, _ => by simp at h
  | _ :: _, [], h, _ => by simp at h
  | v :: l, v' :: l', h, hg => .cons (hg 0 v v' rfl rfl) (VL.of_get (by simpa using h) fun i u u' hu hu' => hg (i + 1) u u' (by simpa using hu) (by simpa using hu'))
theorem VL.vrs {P : Program} {ρ : Emb} {l l' : List Value} (h : VL P ρ l l') : VRs P ρ l.toArray l'.toArray :=
  ⟨by simp [h.length], fun i v v' hv hv' => h.get (by simpa using hv) (by simpa using hv')⟩
theorem VRs.vl {P : Program} {ρ : Emb} {xs xs' : Array Value} (h : VRs P ρ xs xs') : VL P ρ xs.toList xs'.toList :=
  VL.of_get (by simp [h.1]) fun i v v' hv hv' => h.2 i v v' (by simpa using hv) (by simpa using hv')
theorem VL.append {P : Program} {ρ : Emb} {l l' m m' : List Value} (h : VL P ρ l l') (h' : VL P ρ m m') : VL P ρ (l ++ m) (l' ++ m') := by
  induction h with
  | nil => exact h'
  | cons h _ ih => exact .cons h ih
theorem VL.mono {P : Program} {ρ ρ' : Emb} {l l' : List Value} (h : VL P ρ l l') (hs : Sub ρ ρ') : VL P ρ' l l' := by
  induction h with
  | nil => exact .nil
  | cons h _ ih => exact .cons (h.mono hs) ih

theorem evL_at {P : Program} {ρ : Emb} {ev : Operand → Option Value} {cv : Operand → Value} : ∀ {xs : List Operand} {vs : List Value}, (∀ x, x ∈ xs → ∀ v, ev x = some v → VR P ρ v (cv x)) → evL ev xs = some vs → VL P ρ vs (xs.map cv)
  | [], vs, _, h => by simp only [evL, Option.some.injEq] at h; subst h; exact .nil
  | x :: xs, vs, hx, h => by
    simp only [evL] at h
    split at h
    · rename_i v us h1 h2
      cases h
      exact .cons (hx x (by simp) v h1) (evL_at (fun y hy => hx y (by simp [hy])) h2)
    · cases h
theorem evP_at {P : Program} {ρ : Emb} {ev : Operand → Option Value} {cv : Operand → Value} : ∀ {xs : List (Nat × Operand)} {vs : List (Nat × Value)}, (∀ p, p ∈ xs → ∀ v, ev p.2 = some v → VR P ρ v (cv p.2)) → evP ev xs = some vs →
    VP P ρ vs (xs.map fun (i, x) => (i, cv x))
  | [], vs, _, h => by simp only [evP, Option.some.injEq] at h; subst h; exact .nil
  | (i, x) :: xs, vs, hx, h => by
    simp only [evP] at h
    split at h
    · rename_i v us h1 h2
      cases h
      exact .cons (hx (i, x) (by simp) v h1) (evP_at (fun y hy => hx y (by simp [hy])) h2)
    · cases h

theorem VR.cells {P : Program} {ρ : Emb} {v v' : Value} (h : VR P ρ v v') : VL P ρ v.cells.toList v'.cells.toList := by
  cases h with
  | agg hx h => exact VRs.vl ⟨hx, h⟩
  | bool b => exact .cons (.bool b) .nil
  | int k n => exact .cons (.int k n) .nil
  | float k n => exact .cons (.float k n) .nil
  | complex k a b => exact .cons (.complex k a b) .nil
  | string s => exact .cons (.string s) .nil
  | nilp => exact .cons .nilp .nil
  | ptr h => exact .cons (.ptr h) .nil
  | nils => exact .cons .nils .nil
  | slice h a b c d e => exact .cons (.slice h a b c d e) .nil
  | nilm => exact .cons .nilm .nil
  | nilc => exact .cons .nilc .nil
  | nilf => exact .cons .nilf .nil
  | func fn a b c d => exact .cons (.func fn a b c d) .nil
  | iface t h => exact .cons (.iface t h) .nil
  | nili => exact .cons .nili .nil
  | tuple a b => exact .cons (.tuple a b) .nil

/-- cells written into a row -/
theorem VRs.set {P : Program} {ρ : Emb} {xs xs' : Array Value} (h : VRs P ρ xs xs') {v v' : Value} (hv : VR P ρ v v') (i : Nat) : VRs P ρ (xs.setIfInBounds i v) (xs'.setIfInBounds i v') := by
  refine ⟨by simp [h.1], fun j u u' hu hu' => ?_⟩
  rw [Array.getElem?_setIfInBounds] at hu hu'
  by_cases hij : i = j
  · subst hij
    simp only [if_true] at hu hu'
    split at hu <;> split at hu' <;> first | (cases hu; cases hu'; exact hv) | (cases hu; done) | (cases hu'; done)
  · simp only [hij, if_false] at hu hu'
    exact h.2 j u u' hu hu'
theorem fill_cells {P : Program} {ρ : Emb} {l l' : List Value} (h : VL P ρ l l') : ∀ (off j : Nat) {xs xs' : Array Value}, VRs P ρ xs xs' →
    VRs P ρ ((l.zipIdx j).foldl (fun cs (c, j) => cs.setIfInBounds (off + j) c) xs) ((l'.zipIdx j).foldl (fun cs (c, j) => cs.setIfInBounds (off + j) c) xs') := by
  induction h with
  | nil => intro off j xs xs' h; exact h
  | cons hv _ ih => intro off j xs xs' h; simp only [List.zipIdx_cons, List.foldl_cons]; exact ih off (j + 1) (h.set hv (off + j))
theorem foldl_zipIdx {α β : Type} (c : Array α) (f : β → α × Nat → β) (x : β) : c.zipIdx.foldl f x = c.toList.zipIdx.foldl f x := by
  rw [← Array.foldl_toList, Array.toList_zipIdx]
theorem fill_at {P : Program} {ρ : Emb} {place : Nat → Option (Nat × Nat)} {l l' : List (Nat × Value)} (h : VP P ρ l l') : ∀ {xs xs' r : Array Value}, VRs P ρ xs xs' → Instr.fill place xs l = some r →
    ∃ r', Instr.fill place xs' l' = some r' ∧ VRs P ρ r r' := by
  induction h with
  | nil => intro xs xs' r h hf; simp only [Instr.fill, Option.some.injEq] at hf; subst hf; exact ⟨xs', rfl, h⟩
  | cons hv _ ih =>
    intro xs xs' r h hf
    rename_i i v v' l l' _
    simp only [Instr.fill] at hf ⊢
    cases hp : place i with
    | none => simp [hp] at hf
    | some os =>
      obtain ⟨off, size⟩ := os
      have hc := hv.cells
      have hl := hc.length
      simp only [Array.length_toList] at hl
      simp only [hp] at hf ⊢
      rw [← hl, ← h.1]
      split at hf
      · cases hf
      · rename_i hcond
        rw [if_neg hcond]
        refine ih ?_ hf
        rw [foldl_zipIdx, foldl_zipIdx]
        exact fill_cells hc off 0 h

def plains (xs : Array Value) : Bool := xs.toList.all plain
theorem plains_self {P : Program} {ρ : Emb} {xs : Array Value} (h : plains xs = true) : VRs P ρ xs xs :=
  ⟨rfl, fun i v v' hv hv' => by
    rw [hv] at hv'; cases hv'
    exact plain_self (List.all_eq_true.1 h v (by have := Array.mem_of_getElem? hv; simpa using this))⟩

def placesL (P : Program) : List Field → Option (List (Nat × Nat))
  | [] => some []
  | f :: fs => match P.info? f.type, placesL P fs with
    | some i, some l => some ((f.offset, i.size) :: l)
    | _, _ => none
theorem run_placesL {P : Program} {w : World} : ∀ {fs : List Field} {l : List (Nat × Nat)}, placesL P fs = some l → (fs.mapM (m := Sem) fun f => do pure (f.offset, ← sizeOf f.type)).run P w = .ok l w
  | [], l, h => by simp only [placesL, Option.some.injEq] at h; subst h; simp
  | f :: fs, l, h => by
    simp only [placesL] at h
    split at h
    · rename_i i l' h1 h2
      cases h
      have h3 := run_placesL (w := w) h2
      rw [List.mapM_cons]
      simp only [Sem.run_bind, run_sizeOf' h1, Result.andThen_ok, Sem.run_pure]
      rw [h3]
      rfl
    · cases h

def zeroC (P : Program) (t : TypeId) : Option (Array Value) := match P.info? t with
  | some i => match i.zero with
    | some z => bif plains z.cells then some z.cells else none
    | none => none
  | none => none
theorem run_zeroC {P : Program} {w : World} {t : TypeId} {cs : Array Value} (h : zeroC P t = some cs) : ∃ z, (zeroValue t).run P w = .ok z w ∧ z.cells = cs ∧ plains cs = true := by
  unfold zeroC at h
  split at h
  · rename_i i h1
    split at h
    · rename_i z h2
      cases hp : plains z.cells with
      | false => simp [hp] at h
      | true => simp [hp] at h; subst h; exact ⟨z, by simp [zeroValue, typeInfo, h1, h2], rfl, hp⟩
    · cases h
  · cases h

def buildV (P : Program) (t : TypeId) (parts : List (Nat × Value)) : Option Value := match zeroC P t, P.underlying t with
  | some z, some (.struct fields) => match placesL P fields.toList with
    | some pl => (Instr.fill (pl.toArray[·]?) z parts).map Value.agg
    | none => none
  | some z, some (.array _ elem) => match P.info? elem with
    | some i => (Instr.fill (fun n => some (n * i.size, i.size)) z parts).map Value.agg
    | none => none
  | _, _ => none
theorem run_build {P : Program} {w : World} {ρ : Emb} {t : TypeId} {parts parts' : List (Nat × Value)} {v : Value} (h : buildV P t parts = some v) (hp : VP P ρ parts parts') :
    ∃ v', (Instr.build t parts'.toArray).run P w = .ok v' w ∧ VR P ρ v v' := by
  unfold buildV at h
  split at h
  · rename_i z fields h1 h2
    obtain ⟨zv, h3, h4, h5⟩ := run_zeroC (w := w) h1
    split at h
    · rename_i pl h6
      cases hf : Instr.fill (pl.toArray[·]?) z parts with
      | none => rw [hf] at h; cases h
      | some r =>
        simp only [hf, Option.map_some, Option.some.injEq] at h; subst h
        obtain ⟨r', h7, h8⟩ := fill_at hp (plains_self h5) hf
        have h9 := run_placesL (w := w) h6
        refine ⟨.agg r', ?_, .agg h8.1 h8.2⟩
        simp only [Instr.build, Sem.run_bind, h3, Result.andThen_ok, run_underlying h2]
        rw [Array.mapM_eq_mapM_toList]
        simp only [Sem.run_map, h9, Result.andThen_ok, h4, h7, Sem.run_pure]
    · cases h
  · rename_i z n elem h1 h2
    obtain ⟨zv, h3, h4, h5⟩ := run_zeroC (w := w) h1
    split at h
    · rename_i i h6
      cases hf : Instr.fill (fun n => some (n * i.size, i.size)) z parts with
      | none => rw [hf] at h; cases h
      | some r =>
        simp only [hf, Option.map_some, Option.some.injEq] at h; subst h
        obtain ⟨r', h7, h8⟩ := fill_at hp (plains_self h5) hf
        refine ⟨.agg r', ?_, .agg h8.1 h8.2⟩
        simp only [Instr.build, Sem.run_bind, h3, Result.andThen_ok, run_underlying h2, run_sizeOf' h6, h4, h7, Sem.run_pure]
    · cases h
  · cases h

def fieldV (P : Program) (t : TypeId) (x : Value) (f : Nat) : Option Value := match P.underlying t, x with
  | some (.struct fields), .agg cs => match fields[f]? with
    | some fl => partV P fl.type cs fl.offset
    | none => none
  | _, _ => none
theorem run_fieldV {P : Program} {w : World} {ρ : Emb} {t : TypeId} {x x' v : Value} {f : Nat} (h : fieldV P t x f = some v) (hx : VR P ρ x x') : ∃ v', (Instr.field t x' f).run P w = .ok v' w ∧ VR P ρ v v' := by
  unfold fieldV at h
  split at h
  · rename_i fields cs h1
    cases hx with
    | agg hs hg =>
      split at h
      · rename_i fl h2
        obtain ⟨v', h3, h4⟩ := run_part (w := w) h ⟨hs, hg⟩
        exact ⟨v', by simp only [Instr.field, Sem.run_bind, run_underlying h1, Result.andThen_ok, h2, asAgg, Sem.run_pure, h3], h4⟩
      · cases h
  · cases h

def extractV (x : Value) (i : Nat) : Option Value := match x with
  | .tuple vs => vs[i]?
  | _ => none
theorem run_extractV {P : Program} {w : World} {ρ : Emb} {x x' v : Value} {i : Nat} (h : extractV x i = some v) (hx : VR P ρ x x') : ∃ v', (Instr.extract x' i).run P w = .ok v' w ∧ VR P ρ v v' := by
  unfold extractV at h
  split at h
  · cases hx with
    | tuple hs hg =>
      obtain ⟨v', h3, h4⟩ := VRs.get ⟨hs, hg⟩ h
      exact ⟨v', by simp [Instr.extract, h3], h4⟩
  · cases h

def indexV (P : Program) (t : TypeId) (x i : Value) : Option Value := match P.underlying t, x, i with
  | some (.array len elem), .agg cs, .int _ n => if 0 ≤ n ∧ n < len then match P.info? elem with
      | some inf => partV P elem cs (n.toNat * inf.size)
      | none => none
    else none
  | some .string, .string s, .int _ n => match (if 0 ≤ n then s[n.toNat]? else none) with
    | some b => some (.int .u8 b.toNat)
    | none => none
  | _, _, _ => none
theorem run_indexV {P : Program} {w : World} {ρ : Emb} {t : TypeId} {x x' i i' v : Value} (h : indexV P t x i = some v) (hx : VR P ρ x x') (hi : VR P ρ i i') : ∃ v', (Instr.index t x' i').run P w = .ok v' w ∧ VR P ρ v v' := by
  unfold indexV at h
  split at h
  · rename_i len elem cs k n h1
    cases hi
    cases hx with
    | agg hs hg =>
      split at h
      · rename_i hb
        split at h
        · rename_i inf h2
          obtain ⟨v', h3, h4⟩ := run_part (w := w) h ⟨hs, hg⟩
          refine ⟨v', ?_, h4⟩
          simp only [Instr.index, asIntOf, Sem.run_bind, Sem.run_pure, Result.andThen_ok, run_underlying h1]
          rw [if_pos hb]
          simp only [Sem.run_bind, run_sizeOf' h2, Result.andThen_ok, h3]
        · cases h
      · cases h
  · rename_i s k n h1
    cases hi; cases hx
    split at h
    · rename_i b h2
      cases h
      refine ⟨_, ?_, .int _ _⟩
      simp only [Instr.index, asIntOf, Sem.run_bind, Sem.run_pure, Result.andThen_ok, run_underlying h1, h2]
    · cases h
  · cases h

def indexAddrV (P : Program) (t : TypeId) (x i : Value) : Option Value := match P.underlying t, x, i with
  | some (.slice elem), .slice (some ⟨b, o, none⟩) len _, .int _ n => if 0 ≤ n ∧ n < len then match P.info? elem with
      | some inf => some (.pointer (some ⟨b, o + n.toNat * inf.size, none⟩))
      | none => none
    else none
  | some (.array len elem), .pointer (some ⟨b, o, none⟩), .int _ n => if 0 ≤ n ∧ n < len then match P.info? elem with
      | some inf => some (.pointer (some ⟨b, o + n.toNat * inf.size, none⟩))
      | none => none
    else none
  | _, _, _ => none
theorem addr_add (b o n : Nat) : (⟨b, o, none⟩ : Addr).add n = ⟨b, o + n, none⟩ := by unfold Addr.add; split <;> simp_all
theorem run_indexAddrV {P : Program} {w : World} {ρ : Emb} {t : TypeId} {x x' i i' v : Value} (h : indexAddrV P t x i = some v) (hx : VR P ρ x x') (hi : VR P ρ i i') : ∃ v', (Instr.indexAt t x' i').run P w = .ok v' w ∧ VR P ρ v v' := by
  unfold indexAddrV at h
  split at h
  · rename_i elem b o len cap k n h1
    cases hi
    cases hx with
    | slice hf hn hc hp hr hsp =>
      rename_i c' p sp f
      split at h
      · rename_i hb
        obtain rfl := hsp (by omega)
        split at h
        · rename_i inf h2
          cases h
          refine ⟨.pointer (some ⟨f.blk, f.shift + (o + n.toNat * inf.size), none⟩), ?_, .ptr hf⟩
          have hp' := hp (.inl (by omega))
          subst hp'
          simp only [Instr.indexAt, asIntOf, Sem.run_bind, Sem.run_pure, Result.andThen_ok, run_underlying h1]
          rw [if_pos hb]
          simp only [Sem.run_bind, run_sizeOf' h2, Result.andThen_ok, Sem.run_pure, addr_add, Nat.add_assoc]
        · cases h
      · cases h
  · rename_i len elem b o k n h1
    cases hi
    cases hx with
    | ptr hf =>
      rename_i f
      split at h
      · rename_i hb
        split at h
        · rename_i inf h2
          cases h
          refine ⟨.pointer (some ⟨f.blk, f.shift + (o + n.toNat * inf.size), none⟩), ?_, .ptr hf⟩
          simp only [Instr.indexAt, asIntOf, Sem.run_bind, Sem.run_pure, Result.andThen_ok, run_underlying h1, Instr.sureAddr]
          rw [if_pos hb]
          simp only [Sem.run_bind, run_sizeOf' h2, Result.andThen_ok, Sem.run_pure, addr_add, Nat.add_assoc]
        · cases h
      · cases h
  · cases h

def fieldAddrV (P : Program) (t : TypeId) (x : Value) (f : Nat) : Option Value := match P.underlying t, x with
  | some (.struct fields), .pointer (some ⟨b, o, none⟩) => match fields[f]? with
    | some fl => match P.info? fl.type with
      | some i => if i.size = 0 then none else some (.pointer (some ⟨b, o + fl.offset, none⟩))
      | none => none
    | none => none
  | _, _ => none
theorem run_fieldAddrV {P : Program} {w : World} {ρ : Emb} {t : TypeId} {x x' v : Value} {f : Nat} (h : fieldAddrV P t x f = some v) (hx : VR P ρ x x') : ∃ v', (Instr.fieldAt t x' f).run P w = .ok v' w ∧ VR P ρ v v' := by
  unfold fieldAddrV at h
  split at h
  · rename_i fields b o h1
    cases hx with
    | ptr hf =>
      rename_i g
      split at h
      · rename_i fl h2
        split at h
        · rename_i i h3
          split at h
          · cases h
          · rename_i h0
            cases h
            refine ⟨.pointer (some ⟨g.blk, g.shift + (o + fl.offset), none⟩), ?_, .ptr hf⟩
            simp only [Instr.fieldAt, Sem.run_bind, Sem.run_pure, Result.andThen_ok, run_underlying h1, h2, Instr.sureAddr, fieldPlace, run_sizeOf' h3]
            rw [if_neg h0]
            simp only [Sem.run_pure, Result.andThen_ok, addr_add, Nat.add_assoc]
        · cases h
      · cases h
  · cases h
end Go.Proofs.Ythheaehpnleiaaa.AX
