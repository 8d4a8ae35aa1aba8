/- The layer, thirteenth part: stores, appends, copies, calls. -/
import Derived.Test.YthheaehpnleiaaaAxL
namespace Go.Proofs.Ythheaehpnleiaaa.AX
open Go
set_option linter.unusedVariables false
set_option linter.unusedSimpArgs false

/-- what an effect's run comes to -/
theorem EffOk.of_run {P : Program} {o : Oper} {ev : Operand → Option Value} {M M' : Mem} {v : Value}
    (h : ∀ ρ a w, Opnds P ρ ev o a → HR P ρ M.get w → Free ρ M.next → ∃ v' ρ' w', ((execOp a.eval o).run P w = .ok (.value v') w' ∨ ((execOp a.eval o).run P w = .ok .skip w' ∧ v' = undef)) ∧
      VR P ρ' v v' ∧ HR P ρ' M'.get w' ∧ Free ρ' M'.next ∧ Grow ρ M w ρ' M' w') : EffOk P o ev M v M' := by
  intro ρ a w K Q hop hr hf hk
  obtain ⟨v', ρ', w', hrun, h1, h2, h3, h4⟩ := h ρ a w hop hr hf
  unfold Oper.wp
  rcases hrun with hrun | ⟨hrun, rfl⟩
  · rw [hrun]; exact hk v' ρ' w' h1 h2 h3 h4
  · rw [hrun]; exact hk undef ρ' w' h1 h2 h3 h4

def splice (l : List Value) (k : Nat) (vs : List Value) : List Value := l.take k ++ (vs ++ l.drop (k + vs.length))
theorem splice_length {l : List Value} {k : Nat} {vs : List Value} (h : k + vs.length ≤ l.length) : (splice l k vs).length = l.length := by simp [splice]; omega
theorem splice_get {l : List Value} {k : Nat} {vs : List Value} (h : k + vs.length ≤ l.length) (j : Nat) : (splice l k vs)[j]? = if k ≤ j ∧ j < k + vs.length then vs[j - k]? else l[j]? := by
  unfold splice
  by_cases h1 : j < k
  · rw [List.getElem?_append_left (by simp; omega), List.getElem?_take, if_pos h1, if_neg (by omega)]
  · rw [List.getElem?_append_right (by simp; omega)]
    have hl : (l.take k).length = k := by simp; omega
    rw [hl]
    by_cases h2 : j < k + vs.length
    · rw [List.getElem?_append_left (by omega), if_pos ⟨by omega, h2⟩]
    · rw [List.getElem?_append_right (by omega), if_neg (by omega), List.getElem?_drop]
      congr 1; omega

def storeE (P : Program) (M : Mem) (t : TypeId) (x v : Value) : Option Mem := match x with
  | .pointer (some ⟨b, o, none⟩) => match M.get b, P.info? t with
    | some blk, some i => if blk.rw = true ∧ v.cells.size = i.size ∧ oneCells v.cells.toList = true ∧ o + i.size ≤ blk.cells.length then some (M.put b { blk with cells := splice blk.cells o v.cells.toList }) else none
    | _, _ => none
  | _ => none

theorem put_get (M : Mem) (b : Nat) (blk : Blk) : (M.put b blk).get = updM M.get b blk := funext fun i => Mem.get_put M b i blk

theorem storeE_ok {P : Program} {o : Oper} {ev : Operand → Option Value} {M M' : Mem} {t : TypeId} {p q : Operand} {x v : Value} (ho : o.op = .store t p q) (hx : ev p = some x) (hv : ev q = some v) (h : storeE P M t x v = some M') :
    EffOk P o ev M undef M' := by
  refine EffOk.of_run fun ρ a w hop hr hf => ?_
  have e1 := hop.at (x := p) (by simp [ho, Op.operands]) hx
  have e2 := hop.at (x := q) (by simp [ho, Op.operands]) hv
  generalize hx' : a.eval p = x' at e1
  generalize hv' : a.eval q = v' at e2
  unfold storeE at h
  split at h
  · rename_i b off
    split at h
    · rename_i blk i h1 h2
      split at h
      · rename_i hc
        obtain ⟨c1, c2, c3, c4⟩ := hc
        cases h
        cases e1 with
        | ptr hfb =>
          rename_i f
          obtain ⟨f', hf', hone⟩ := hr.one b blk h1
          rw [hfb] at hf'; cases hf'
          obtain ⟨cs, fz, g1, g2, g3, g4⟩ := hone.own c1
          have hcl := e2.cells
          have hsz : v'.cells.size = i.size := by have := hcl.length; simp at this; omega
          have hroom := hone.room
          have hlen : f.shift + off + 0 + v'.cells.toList.length ≤ cs.size := by simp; omega
          have hrun := run_storeCells_own (P := P) (o := f.shift + off) v'.cells.toList 0 w cs g1 (g3 c1) hlen (by rw [hcl.ones]; exact c3)
          have hex : (execOp a.eval o).run P w = .ok .skip { w with heap := w.heap.setIfInBounds f.blk (.cells (setR cs (f.shift + off + 0) v'.cells.toList) f.elem fz) } := by
            unfold execOp
            simp only [ho, hx', hv', Instr.storeAt, Instr.sureAddr, Sem.run_bind, Sem.run_pure, Result.andThen_ok, storeVar, run_sizeOf' h2]
            rw [if_neg (by simp [hsz])]
            rw [hrun]
            rfl
          have hspl : off + v.cells.toList.length ≤ blk.cells.length := by simp; omega
          obtain ⟨q1, q2⟩ := hr.write (cells := splice blk.cells off v.cells.toList) (cs' := setR cs (f.shift + off + 0) v'.cells.toList) (fz := fz) h1 c1 hfb (by rw [setR_size]; exact g2) (by rw [setR_size]; exact g3 c1) (splice_length hspl) (fun j u hu => by
            rw [splice_get hspl] at hu
            rw [setR_get _ _ _ _ hlen]
            by_cases hj : off ≤ j ∧ j < off + v.cells.toList.length
            · rw [if_pos hj] at hu
              have hl := hcl.length
              rw [if_pos (by omega)]
              have := hcl.at _ _ hu
              rw [show f.shift + j - (f.shift + off + 0) = j - off by omega]
              exact this
            · rw [if_neg hj] at hu
              have hl := hcl.length
              rw [if_neg (by omega)]
              exact g4 j u hu) (w' := { w with heap := w.heap.setIfInBounds f.blk (.cells (setR cs (f.shift + off + 0) v'.cells.toList) f.elem fz) }) rfl ⟨rfl, rfl, rfl⟩
          refine ⟨undef, ρ, _, .inr ⟨hex, rfl⟩, VR.undef P ρ, by rw [put_get]; exact q1, hf, ⟨by rw [put_get]; exact q2, fun _ _ h => h, Nat.le_refl _⟩⟩
      · cases h
    · cases h
  · cases h

/-- how many there are of what is appended, and their cells -/
def contentV (m : Mm) (sz : Nat) (x : Value) : Option (Nat × List Value) := match x with
  | .slice none _ _ => some (0, [])
  | .slice (some ⟨b, o, none⟩) n _ => if n = 0 then some (0, []) else match m b with
    | some blk => if o + n * sz ≤ blk.cells.length then some (n, (blk.cells.drop o).take (n * sz)) else none
    | none => none
  | .string s => if sz = 1 then some (s.size, s.data.toList.map fun b => .int .u8 b.toNat) else none
  | _ => none

theorem run_content {P : Program} {ρ : Emb} {m : Mm} {w : World} {sz : Nat} {x x' : Value} {n : Nat} {vs : List Value} (h : contentV m sz x = some (n, vs)) (hx : VR P ρ x x') (hr : HR P ρ m w) :
    Builtin.lenOf x' = pure n ∧ ∃ vs', vs'.length = n * sz ∧ VL P ρ vs vs' ∧ ∀ w', (∀ B, B < w.heap.size → w'.heap[B]? = w.heap[B]?) → (Builtin.firstCells sz n x').run P w' = .ok vs'.toArray w' := by
  unfold contentV at h
  split at h
  · cases h; cases hx
    exact ⟨rfl, [], by simp, .nil, fun w' _ => by simp [Builtin.firstCells]⟩
  · rename_i b o k c
    cases hx with
    | slice hf hn hc hp hroom hsp =>
      rename_i c' p sp f
      split at h
      · rename_i h0
        cases h
        subst h0
        exact ⟨rfl, [], by simp, .nil, fun w' _ => by simp only [Builtin.firstCells, Nat.zero_mul]; rfl⟩
      · rename_i h0
        split at h
        · rename_i blk hb
          split at h
          · rename_i hle
            cases h
            obtain ⟨f', hf', hone⟩ := hr.one b blk hb
            rw [hf] at hf'; cases hf'
            obtain ⟨us, hl, hvl, hcell⟩ := hone.range hle
            refine ⟨rfl, us, hl, hvl, fun w' hw' => ?_⟩
            have hpe := hp (.inl (by omega))
            subst hpe
            obtain rfl := hsp (by omega)
            refine run_firstCells_some w' sz n _ _ _ us hl fun j u hu => ?_
            have := hcell j u hu
            rw [addr_add] at this ⊢
            unfold World.cell? at this ⊢
            rw [hw' f.blk hone.lt]; exact this
          · cases h
        · cases h
  · rename_i s
    split at h
    · rename_i h1
      cases h; cases hx
      subst h1
      have hs : s.size = s.data.size := rfl
      refine ⟨rfl, s.data.toList.map fun b => .int .u8 b.toNat, by rw [List.length_map, Nat.mul_one]; rfl, ?_, fun w' _ => ?_⟩
      · refine VL.of_get rfl fun i v v' hv hv' => ?_
        rw [hv] at hv'; cases hv'
        rw [List.getElem?_map] at hv
        cases hg : s.data.toList[i]? with
        | none => rw [hg] at hv; cases hv
        | some b => rw [hg] at hv; cases hv; exact .int _ _
      · have he : s.extract 0 s.size = s := ByteArray.ext (by rw [ByteArray.data_extract]; exact Array.extract_size)
        simp only [Builtin.firstCells, he, Sem.run_pure]
        congr 1
        apply Array.ext'
        rw [Array.toList_map]
    · cases h
  · cases h

def isInt : TypeDesc → Bool
  | .int _ => true
  | _ => false

def grownE (P : Program) (M : Mem) (e : TypeId) (cells : List Value) (n : Nat) : Value × Mem := (rowTo n unk M.next, (M.put M.next ⟨cells, e, true⟩).bump 1)
def appendE (P : Program) (M : Mem) (t tx : TypeId) (s x : Value) : Option (Value × Mem) := match P.underlying t, P.underlying tx with
  | some (.slice e), some d => match P.info? e, zeroC P e with
    | some i, some z => if isInt d = true ∨ i.bytes = 0 ∨ z.size ≠ i.size then none else match contentV M.get i.size s, contentV M.get i.size x with
      | some (k, olds), some (n, news) => match s with
          | .slice none _ _ => if n = 0 then some (s, M) else if (k + n) * i.bytes ≤ 140737488355328 then some (grownE P M e (olds ++ news) (k + n)) else none
          | .slice (some ⟨b, o, none⟩) k' c => if n = 0 then some (s, M) else if (k + n) * i.bytes ≤ 140737488355328 ∧ k = k' ∧ oneCells news = true then
              if c ≠ unk ∧ c < k + n then some (grownE P M e (olds ++ news) (k + n)) else match M.get b with
              | some blk => if blk.rw = true ∧ blk.elem = e then some (grownE P (M.del b) e (olds ++ news) (k + n)) else none
              | none => none
            else none
          | _ => none
      | _, _ => none
    | _, _ => none
  | _, _ => none

theorem run_append_in {P : Program} {w : World} {t tx ty e : TypeId} {i : TypeInfo} {d : TypeDesc} (ht : P.underlying t = some (.slice e)) (htx : P.underlying tx = some d) (hd : isInt d = false) (hi : P.info? e = some i)
    {base : Option Addr} {k c n : Nat} {x : Value} {news : List Value} (hl : Builtin.lenOf x = pure n) (hn : (Builtin.firstCells i.size n x).run P w = .ok news.toArray w) (hc : k + n ≤ c) :
    (Builtin.append_ #[t, tx] ty #[.slice base k c, x]).run P w = match base with
      | some a => ((storeCells (a.add (k * i.size)) news).run P w).andThen fun _ w' => .ok (.slice base (k + n) c) w'
      | none => .ok (.slice base (k + n) c) w := by
  cases d <;> first
    | (simp [isInt] at hd; done)
    | (simp only [Builtin.append_, List.getElem?_toArray, List.getElem?_cons_zero, List.getElem?_cons_succ, Sem.run_bind, run_underlying ht, run_underlying htx, Result.andThen_ok, run_sizeOf' hi, hl, Sem.run_pure, Bool.false_eq_true, if_false, Bool.not_false, if_true]
       rw [if_pos hc]
       cases base <;> simp only [Sem.run_bind, hn, Result.andThen_ok, Sem.run_pure])

theorem run_append_out {P : Program} {w : World} {t tx ty e : TypeId} {i : TypeInfo} {d : TypeDesc} (ht : P.underlying t = some (.slice e)) (htx : P.underlying tx = some d) (hd : isInt d = false) (hi : P.info? e = some i) {z : Value} (hz : ∀ w, (zeroValue e).run P w = .ok z w)
    {base : Option Addr} {k c n : Nat} {x : Value} {olds news : List Value} (hb0 : i.bytes ≠ 0) (hl : Builtin.lenOf x = pure n) (ho : ∀ w', (∀ B, B < w.heap.size → w'.heap[B]? = w.heap[B]?) → (Builtin.firstCells i.size k (.slice base k c)).run P w' = .ok olds.toArray w')
    (hn : ∀ w', (∀ B, B < w.heap.size → w'.heap[B]? = w.heap[B]?) → (Builtin.firstCells i.size n x).run P w' = .ok news.toArray w') (hc : c < k + n) (hb : (k + n) * i.bytes ≤ 140737488355328) :
    (Builtin.append_ #[t, tx] ty #[.slice base k c, x]).run P w =
      .ok (.slice (some ⟨w.heap.size, 0, none⟩) (k + n) (grownCap w (k + n) c e)) { w with drawn := w.drawn + 1, heap := w.heap.push (.cells (olds.toArray ++ news.toArray ++ Builtin.zeroCells z.cells (grownCap w (k + n) c e - (k + n))) e) } := by
  have h1 : ¬ (k + n ≤ c) := by omega
  have h2 := growslice_fits hc hb
  have h3 : ¬ (Builtin.nextslicecap (k + n) c * i.bytes > 2 ^ 48) := by omega
  have h4 : ¬ (((k + n : Nat) : Int) > IntKind.i64.max ∧ (False ∨ i.bytes = 0)) := fun h => by rcases h.2 with h | h; exact h; exact hb0 h
  have hq : (Question.appendCap (k + n) c e).forced = false := rfl
  have o1 := ho { w with drawn := w.drawn + 1 } (fun _ _ => rfl)
  have n1 := hn { w with drawn := w.drawn + 1 } (fun _ _ => rfl)
  have hti : ∀ w, (typeInfo e).run P w = .ok i w := fun w => by simp [typeInfo, hi]
  have hsz : ∀ w, (sizeOf e).run P w = .ok i.size w := fun w => run_sizeOf' hi
  cases d <;> first
    | (simp [isInt] at hd; done)
    | (simp only [Builtin.append_, List.getElem?_toArray, List.getElem?_cons_zero, List.getElem?_cons_succ, Sem.run_bind, run_underlying ht, run_underlying htx, Result.andThen_ok, hsz, hl, Sem.run_pure, Bool.false_eq_true, if_false, Bool.not_false, if_true]
       rw [if_neg h1]
       simp only [Sem.run_bind, hti, Result.andThen_ok]
       rw [if_neg h4]
       simp only [Sem.run_bind, hti, Result.andThen_ok]
       rw [if_neg h3]
       simp only [Sem.run_bind, run_choose, hq, Bool.false_eq_true, if_false, Result.andThen_ok, hti, run_askRoom, o1, n1, hz, Sem.run_pure, newRow, run_newObj, grownCap])
end Go.Proofs.Ythheaehpnleiaaa.AX
