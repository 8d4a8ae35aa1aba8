/- The layer, eleventh part: blocks made; stores, appends, copies, calls. -/
import Derived.Test.YthheaehpnleiaaaAxJ
namespace Go.Proofs.Ythheaehpnleiaaa.AX
open Go
set_option linter.unusedVariables false
set_option linter.unusedSimpArgs false

def intsOf : List Value → Option (List Int)
  | [] => some []
  | .int .u8 n :: l => match intsOf l with
    | some r => some (n :: r)
    | none => none
  | _ :: _ => none
def strOf (ns : List Int) : ByteArray := ⟨(ns.map fun n => UInt8.ofNat n.toNat).toArray⟩
theorem fold_push (ns : List Int) : ∀ (s : ByteArray), ns.foldl (fun r n => r.push (UInt8.ofNat n.toNat)) s = ⟨s.data ++ (ns.map fun n => UInt8.ofNat n.toNat).toArray⟩ := by
  induction ns with
  | nil => intro s; simp
  | cons n ns ih => intro s; rw [List.foldl_cons, ih]; simp [ByteArray.push]
theorem intsOf_eq : ∀ {l : List Value} {ns : List Int}, intsOf l = some ns → l = ns.map (Value.int .u8)
  | [], ns, h => by simp only [intsOf, Option.some.injEq] at h; subst h; rfl
  | v :: l, ns, h => by
    cases v <;> try (simp [intsOf] at h; done)
    rename_i k n
    cases k <;> try (simp [intsOf] at h; done)
    simp only [intsOf] at h
    split at h
    · rename_i r hr
      cases h
      simp [intsOf_eq hr]
    · cases h
theorem VL.ints {P : Program} {ρ : Emb} {ns : List Int} {l' : List Value} (h : VL P ρ (ns.map (Value.int .u8)) l') : l' = ns.map (Value.int .u8) := by
  induction ns generalizing l' with
  | nil => cases h; rfl
  | cons n ns ih => cases h with | cons h h' => cases h; rw [ih h']; rfl

/-- bytes as a string -/
def strV (P : Program) (m : Mm) (src dst : TypeId) (x : Value) : Option Value := match P.underlying src, P.underlying dst, x with
  | some (.slice e), some .string, .slice none _ _ => match P.underlying e with
    | some (.int .u8) => some (.string (strOf []))
    | _ => none
  | some (.slice e), some .string, .slice (some ⟨b, o, none⟩) len _ => match P.underlying e, m b with
    | some (.int .u8), some blk => if o + len ≤ blk.cells.length then match intsOf ((blk.cells.drop o).take len) with
        | some ns => some (.string (strOf ns))
        | none => none
      else none
    | _, _ => none
  | _, _, _ => none
theorem run_strV {P : Program} {ρ : Emb} {m : Mm} {w : World} {src dst : TypeId} {x x' v : Value} (h : strV P m src dst x = some v) (hx : VR P ρ x x') (hr : HR P ρ m w) :
    ∃ v', (convert src dst x').run P w = .ok v' w ∧ VR P ρ v v' := by
  unfold strV at h
  split at h
  · rename_i e n c h1 h2
    split at h
    · rename_i h3
      cases h; cases hx
      refine ⟨_, ?_, .string _⟩
      rw [run_convert_bytes_string w src dst e _ _ _ h1 h3 h2]
      rfl
    · cases h
  · rename_i e b o len cap h1 h2
    split at h
    · rename_i blk h3 h4
      split at h
      · rename_i hle
        split at h
        · rename_i ns hns
          cases h
          cases hx with
          | slice hf hn hc hp hroom hsp =>
            rename_i c' p sp f
            obtain ⟨f', hf', hone⟩ := hr.one b blk h4
            rw [hf] at hf'; cases hf'
            refine ⟨_, ?_, .string _⟩
            rw [run_convert_bytes_string w src dst e _ _ _ h1 h3 h2]
            have hload : (loadCells (⟨f.blk, p, sp⟩ : Addr) len).run P w = .ok (ns.map (Value.int .u8)).toArray w := by
              have hnl : ns.length = len := by
                have := congrArg List.length (intsOf_eq hns)
                simp at this; omega
              by_cases h0 : 0 < len
              · obtain rfl := hsp (by omega)
                have hpe := hp (.inl h0)
                subst hpe
                obtain ⟨vs, hl, hvl, hcell⟩ := hone.range hle
                rw [intsOf_eq hns] at hvl
                have hvs := hvl.ints
                subst hvs
                have := run_loadCells_list (P := P) w ⟨f.blk, f.shift + o, none⟩ _ hcell
                rw [hl] at this
                exact this
              · have : len = 0 := by omega
                subst this
                have : ns = [] := List.eq_nil_of_length_eq_zero hnl
                subst this
                rfl
            rw [run_bytesToString w _ _ _ ns hload, fold_push]
            simp [strOf]
        · cases h
      · cases h
    · cases h
  · cases h

/-- bytes of a constant: they stay as they are -/
def markV (P : Program) (m : Mm) (src dst : TypeId) (x : Value) : Option Value := match P.underlying src, x with
  | some (.slice e), .slice (some ⟨b, o, none⟩) len cap => match P.underlying e, m b with
    | some (.int .u8), some blk => if src = dst ∧ blk.rw = true then some x else none
    | _, _ => none
  | _, _ => none
theorem updM_same {m : Mm} {id : Nat} {b : Blk} (h : m id = some b) : updM m id { b with cells := b.cells } = m := funext fun i => by
  unfold updM
  by_cases hi : i = id
  · subst hi; simp [h]
  · simp [hi]
theorem still_markV {P : Program} {o : Oper} {ev : Operand → Option Value} {m : Mm} {v x : Value} {src dst : TypeId} {p : Operand} (ho : o.op = .convert src dst p) (hx : ev p = some x) (h : markV P m src dst x = some v) : StillOk P o ev m v := by
  intro ρ a w K Q hop hr hk
  have hvr := hop.at (x := p) (by simp [ho, Op.operands]) hx
  generalize hx' : a.eval p = x' at hvr
  unfold markV at h
  split at h
  · rename_i e b off len cap h1
    split at h
    · rename_i blk h3 h4
      split at h
      · rename_i hcond
        obtain ⟨rfl, hrw⟩ := hcond
        cases h
        have hvr' := hvr
        cases hvr with
        | slice hf hn hc hp hroom hsp =>
          rename_i c' q sp f
          obtain ⟨f', hf', hone⟩ := hr.one b blk h4
          rw [hf] at hf'; cases hf'
          obtain ⟨cs, fz, hh, hsz, hfz, hcs⟩ := hone.own hrw
          have hfz' := hfz hrw
          have hshape : w.shape? f.blk = some (f.elem, cs.size) := by simp [World.shape?, hh]
          have hrun : (execOp a.eval o).run P w = .ok (.value (.slice (some ⟨f.blk, q, sp⟩) len c')) (w.freeze ⟨f.blk, cs.size, none⟩ 1) := by
            unfold execOp
            simp only [ho, hx', Sem.run_bind, convert, run_underlying h1, Result.andThen_ok, run_underlying h3, beq_self_eq_true, markStringish, run_shape, hshape, run_freeze, Sem.run_pure]
          unfold Oper.wp
          rw [hrun]
          have hheap : (w.freeze ⟨f.blk, cs.size, none⟩ 1).heap = w.heap.setIfInBounds f.blk (.cells cs f.elem (cs.size, cs.size + 1)) := by
            simp only [World.freeze]
            rw [if_neg (by decide)]
            simp only []
            rw [modify_cells w.heap hh]
            rcases hfz' with rfl | rfl <;> simp
          obtain ⟨q1, q2⟩ := hr.write h4 hrw hf hsz (.inr rfl) rfl hcs hheap (Io.freeze _ _ _)
          rw [updM_same h4] at q1 q2
          exact hk _ _ hvr' q1 q2
      · cases h
    · cases h
  · cases h

/-! ### blocks made -/
def ptrTo (id : Nat) : Value := .pointer (some ⟨id, 0, none⟩)
def rowTo (n c id : Nat) : Value := .slice (some ⟨id, 0, none⟩) n c

theorem AllocOk.of_run {P : Program} {o : Oper} {ev : Operand → Option Value} {cells : List Value} {elem : TypeId} {mk : Nat → Value}
    (h : ∀ ρ a w, Opnds P ρ ev o a → ∃ v' cs fz w', (execOp a.eval o).run P w = .ok (.value v') w' ∧ (w'.heap = w.heap.push (.cells cs elem fz) ∧ Io w w') ∧ (fz = (0, 0) ∨ fz = (cs.size, cs.size + 1)) ∧ cells.length ≤ cs.size ∧
      (∀ (i : Nat) (v : Value), cells[i]? = some v → ∃ v', cs[i]? = some v' ∧ VR P ρ v v') ∧ ∀ ρ' id, ρ' id = some ⟨w.heap.size, 0, cs.size, elem⟩ → VR P ρ' (mk id) v') : AllocOk P o ev ⟨cells, elem, true⟩ mk := by
  intro ρ m a w id K Q hop hr hid hk
  obtain ⟨v', cs, fz, w', h1, h2, h3, h4, h5, h6⟩ := h ρ a w hop
  obtain ⟨q1, q2, q3⟩ := hr.alloc hid h3 h4 h5 h2.1 h2.2 (rw_ := true)
  unfold Oper.wp
  rw [h1]
  exact hk v' _ w' (h6 _ id (by simp [updE])) q1 q2

theorem ptr_new {P : Program} {ρ : Emb} {n s id : Nat} {e : TypeId} (h : ρ id = some ⟨n, 0, s, e⟩) : VR P ρ (ptrTo id) (.pointer (some ⟨n, 0, none⟩)) := by
  have := VR.ptr (P := P) (o := 0) h
  simpa [ptrTo] using this
theorem row_new {P : Program} {ρ : Emb} {n s id l c c' : Nat} {e : TypeId} (h : ρ id = some ⟨n, 0, s, e⟩) (hl : l ≤ c') (hc : c = c' ∨ c = unk) (hs : c' * P.cellsOf e ≤ s) : VR P ρ (rowTo l c id) (.slice (some ⟨n, 0, none⟩) l c') :=
  VR.slice (P := P) (p := 0) h hl hc (fun _ => rfl) (by simpa using hs) (fun _ => rfl)

def zcells (z : Array Value) (n : Nat) : List Value := (List.range n).map fun i => z[i % z.size]!
theorem zcells_eq (z : Array Value) (n : Nat) : ((Array.range n).map fun i => z[i % z.size]!).toList = zcells z n := by simp [zcells]

def allocA (P : Program) (ev : Operand → Option Value) (op : Op) : Option (Blk × (Nat → Value)) := match op with
  | .alloc t => match zeroC P t with
    | some z => some (⟨z.toList, t, true⟩, ptrTo)
    | none => none
  | .box t x => match ev x with
    | some v => some (⟨v.cells.toList, t, true⟩, ptrTo)
    | none => none
  | .buildSlice t len parts => match P.underlying t, evP ev parts.toList with
    | some (.slice e), some ps => match P.info? e with
      | some i => if len * i.size ≤ 16777216 then match (if len * i.size = 0 then some #[] else zeroC P e) with
          | some z => match Instr.fill (fun n => some (n * i.size, i.size)) ((Array.range (len * i.size)).map (z[· % z.size]!)) ps with
            | some r => if r.size = len * i.size ∧ plains z = true ∧ (len * i.size = 0 ∨ z.size ≠ 0) then some (⟨r.toList, e, true⟩, rowTo len len) else none
            | none => none
          | none => none
        else none
      | none => none
    | _, _ => none
  | .makeSlice t l c => match P.underlying t, ev l, ev c with
    | some (.slice e), some (.int _ l), some (.int _ c) => match P.info? e with
      | some i => if 0 ≤ l ∧ l ≤ c ∧ c ≤ 281474976710656 ∧ i.bytes * c ≤ 281474976710656 then match (if c.toNat * i.size = 0 then some #[] else zeroC P e) with
          | some z => if plains z = true ∧ (c.toNat * i.size = 0 ∨ z.size ≠ 0) then some (⟨zcells z (c.toNat * i.size), e, true⟩, rowTo l.toNat c.toNat) else none
          | none => none
        else none
      | none => none
    | _, _, _ => none
  | .convert src dst x => match P.underlying src, P.underlying dst, ev x with
    | some .string, some (.slice e), some (.string s) => match P.underlying e with
      | some (.int .u8) => if P.cellsOf e = 1 then some (⟨s.data.toList.map fun b => .int .u8 b.toNat, e, true⟩, rowTo s.size unk) else none
      | _ => none
    | _, _, _ => none
  | _ => none

theorem VL.at {P : Program} {ρ : Emb} {l l' : List Value} (h : VL P ρ l l') (i : Nat) (v : Value) (hv : l[i]? = some v) : ∃ v', l'[i]? = some v' ∧ VR P ρ v v' := by
  have hlt : i < l'.length := by rw [← h.length]; exact (List.getElem?_eq_some_iff.1 hv).1
  exact ⟨l'[i], by simp [hlt], h.get hv (by simp [hlt])⟩
theorem VRs.at {P : Program} {ρ : Emb} {l l' : Array Value} (h : VRs P ρ l l') (i : Nat) (v : Value) (hv : l.toList[i]? = some v) : ∃ v', l'[i]? = some v' ∧ VR P ρ v v' := h.get (by simpa using hv)

theorem plains_range {z : Array Value} (h : plains z = true) (n : Nat) (hn : n = 0 ∨ z.size ≠ 0) : plains ((Array.range n).map fun i => z[i % z.size]!) = true := by
  unfold plains at *
  rw [zcells_eq]
  unfold zcells
  rw [List.all_map, List.all_eq_true]
  intro i hi
  rw [List.mem_range] at hi
  have hz : z.size ≠ 0 := hn.resolve_left (by omega)
  have hlt : i % z.size < z.size := Nat.mod_lt _ (by omega)
  rw [List.all_eq_true] at h
  simp only [Function.comp, getElem!_pos z (i % z.size) hlt]
  exact h _ (by simp)
end Go.Proofs.Ythheaehpnleiaaa.AX
