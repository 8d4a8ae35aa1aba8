/- The layer, twenty-third part: the walk's own rules and words. -/
import Derived.Test.YthheaehpnleiaaaAxV
namespace Go.Proofs.Ythheaehpnleiaaa.AX
open Go
set_option linter.unusedVariables false
set_option linter.unusedSimpArgs false

theorem AWP.seqR {P : Program} {k id : Nat} {ops : Array Oper} {d : Code} {s : St} {Q : Exit → St → Prop} {e' : Env} {M' : Mem}
    (h : wpS P ops k s.mem.next ops.toList 0 s.env (s.mem.bump (nAl P ops.toList)) fun e M => e = e' ∧ M = M') (h' : AWP P k d ⟨e', M'⟩ Q) : AWP P k (.seq (.region id ops false) d) s Q :=
  AWP.seq (AWP.region (wpS.mono' h fun e M ⟨he, hM⟩ => by subst he; subst hM; exact h'))
theorem AWP.oneR {P : Program} {k id : Nat} {ops : Array Oper} {s : St} {Q : Exit → St → Prop} {e' : Env} {M' : Mem}
    (h : wpS P ops k s.mem.next ops.toList 0 s.env (s.mem.bump (nAl P ops.toList)) fun e M => e = e' ∧ M = M') (h' : Q .normal ⟨e', M'⟩) : AWP P k (.region id ops false) s Q :=
  AWP.region (wpS.mono' h fun e M ⟨he, hM⟩ => by subst he; subst hM; exact h')
theorem AWP.seqD {P : Program} (hmo : P.follows .mixedOrders = true) {k id : Nat} {ops : Array Oper} (ord msk : List Nat) (A U : List (Nat × Nat)) {d : Code} {s : St} {Q : Exit → St → Prop} {e' : Env} {M' : Mem} (hreg : okReg P k ops ord msk A U = true)
    (h : wpD P ops k s.mem.next A U (ord.map fun i => (i, opAt ops i)) 0 s.env (s.mem.bump (nAl P (ord.map fun i => opAt ops i))) (s.mem.bump (nAl P (ord.map fun i => opAt ops i))) [] [] [] fun e M => e = e' ∧ M = M')
    (h' : AWP P k d ⟨e', M'⟩ Q) : AWP P k (.seq (.region id ops true) d) s Q :=
  AWP.seq (AWP.regionD hmo ord msk A U hreg (wpD.mono' h fun e M ⟨he, hM⟩ => by subst he; subst hM; exact h'))
theorem AWP.oneD {P : Program} (hmo : P.follows .mixedOrders = true) {k id : Nat} {ops : Array Oper} (ord msk : List Nat) (A U : List (Nat × Nat)) {s : St} {Q : Exit → St → Prop} {e' : Env} {M' : Mem} (hreg : okReg P k ops ord msk A U = true)
    (h : wpD P ops k s.mem.next A U (ord.map fun i => (i, opAt ops i)) 0 s.env (s.mem.bump (nAl P (ord.map fun i => opAt ops i))) (s.mem.bump (nAl P (ord.map fun i => opAt ops i))) [] [] [] fun e M => e = e' ∧ M = M')
    (h' : Q .normal ⟨e', M'⟩) : AWP P k (.region id ops true) s Q :=
  AWP.regionD hmo ord msk A U hreg (wpD.mono' h fun e M ⟨he, hM⟩ => by subst he; subst hM; exact h')

theorem Mem.bump_zero (M : Mem) : M.bump 0 = M := rfl

/-! ### words -/
/-- one cell of a block -/
def ldS (m : Mm) (b o : Nat) : Option Value := match m b with
  | some blk => blk.cells[o]?
  | none => none
/-- some cells of a block -/
def ldA (m : Mm) (b o n : Nat) : Option Value := match m b with
  | some blk => if o + n ≤ blk.cells.length then some (.agg ((blk.cells.drop o).take n).toArray) else none
  | none => none
theorem loadV_scalar {P : Program} {t : TypeId} {d : TypeDesc} {i : TypeInfo} (hd : P.underlying t = some d) (hi : P.info? t = some i) (ha : aggT d = false) (m : Mm) (b o : Nat) : loadV P m t (.pointer (some ⟨b, o, none⟩)) = ldS m b o := by
  unfold loadV ldS
  simp only [hd, hi]
  cases m b with
  | none => rfl
  | some blk => simp only [ha, cond_false]
theorem loadV_agg {P : Program} {t : TypeId} {d : TypeDesc} {i : TypeInfo} (hd : P.underlying t = some d) (hi : P.info? t = some i) (ha : aggT d = true) (m : Mm) (b o : Nat) : loadV P m t (.pointer (some ⟨b, o, none⟩)) = ldA m b o i.size := by
  unfold loadV ldA
  simp only [hd, hi]
  cases m b with
  | none => rfl
  | some blk => simp only [ha, cond_true]
theorem ldS_at {m : Mm} {b : Nat} {blk : Blk} (h : m b = some blk) (o : Nat) : ldS m b o = blk.cells[o]? := by simp only [ldS, h]
theorem ldA_at {m : Mm} {b : Nat} {blk : Blk} (h : m b = some blk) (o n : Nat) : ldA m b o n = if o + n ≤ blk.cells.length then some (.agg ((blk.cells.drop o).take n).toArray) else none := by simp only [ldA, h]
/-- cells written -/
def stV (M : Mem) (b o n : Nat) (v : Value) : Option Mem := match M.get b with
  | some blk => if blk.rw = true ∧ v.cells.size = n ∧ oneCells v.cells.toList = true ∧ o + n ≤ blk.cells.length then some (M.put b { blk with cells := splice blk.cells o v.cells.toList }) else none
  | none => none
theorem storeE_eq {P : Program} {t : TypeId} {i : TypeInfo} (hi : P.info? t = some i) (M : Mem) (b o : Nat) (v : Value) : storeE P M t (.pointer (some ⟨b, o, none⟩)) v = stV M b o i.size v := by
  unfold storeE stV
  simp only [hi]
  cases M.get b <;> rfl
theorem stV_at {M : Mem} {b : Nat} {blk : Blk} (h : M.get b = some blk) (o n : Nat) (v : Value) : stV M b o n v = if blk.rw = true ∧ v.cells.size = n ∧ oneCells v.cells.toList = true ∧ o + n ≤ blk.cells.length then some (M.put b { blk with cells := splice blk.cells o v.cells.toList }) else none := by simp only [stV, h]

theorem binV_int {P : Program} (op : BinOp) (t : TypeId) (k : IntKind) (a b : Int) : binV P op t (.int k a) (.int k b) = intBin op k a b := by simp [binV]
theorem binV_str {P : Program} (op : BinOp) (t : TypeId) (a b : ByteArray) : binV P op t (.string a) (.string b) = strBin op a b := rfl
theorem convV_int {P : Program} {src dst : TypeId} {d : TypeDesc} {k : IntKind} (h : P.underlying src = some d) (h' : P.underlying dst = some (.int k)) (k' : IntKind) (n : Int) : convV P src dst (.int k' n) = some (.int k (k.wrap n)) := by simp only [convV, h, h']
theorem convV_str {P : Program} {src dst : TypeId} {d : TypeDesc} (h : P.underlying src = some d) (h' : P.underlying dst = some .string) (s : ByteArray) : convV P src dst (.string s) = some (.string s) := by simp only [convV, h, h']

/-- an element's address -/
theorem indexAddrV_slice {P : Program} {t e : TypeId} {i : TypeInfo} (h : P.underlying t = some (.slice e)) (hi : P.info? e = some i) (b o n c : Nat) (k : IntKind) (x : Int) :
    indexAddrV P t (.slice (some ⟨b, o, none⟩) n c) (.int k x) = if 0 ≤ x ∧ x < n then some (.pointer (some ⟨b, o + x.toNat * i.size, none⟩)) else none := by simp only [indexAddrV, h, hi]
theorem lenV_slice {P : Program} {t e : TypeId} (h : P.underlying t = some (.slice e)) (a : Option Addr) (n c : Nat) : lenV P t (.slice a n c) = some (.int .i64 n) := by cases a <;> simp only [lenV, h]
theorem lenV_str {P : Program} {t : TypeId} (h : P.underlying t = some .string) (s : ByteArray) : lenV P t (.string s) = some (.int .i64 s.size) := by simp only [lenV, h]

/-! ### what a type's row tells, as closed facts -/
def ldK (P : Program) (t : TypeId) : Option (Bool × Nat) := match P.underlying t, P.info? t with
  | some d, some i => some (aggT d, i.size)
  | _, _ => none
theorem ld_scalar {P : Program} {t n : Nat} (h : ldK P t = some (false, n)) (m : Mm) (b o : Nat) : loadV P m t (.pointer (some ⟨b, o, none⟩)) = ldS m b o := by
  unfold ldK at h
  split at h
  · rename_i d i hd hi
    simp only [Option.some.injEq, Prod.mk.injEq] at h
    exact loadV_scalar hd hi h.1 m b o
  · cases h
theorem ld_agg {P : Program} {t n : Nat} (h : ldK P t = some (true, n)) (m : Mm) (b o : Nat) : loadV P m t (.pointer (some ⟨b, o, none⟩)) = ldA m b o n := by
  unfold ldK at h
  split at h
  · rename_i d i hd hi
    simp only [Option.some.injEq, Prod.mk.injEq] at h
    rw [← h.2]
    exact loadV_agg hd hi h.1 m b o
  · cases h
theorem st_eq {P : Program} {t n : Nat} (h : (P.info? t).map (·.size) = some n) (M : Mem) (b o : Nat) (v : Value) : storeE P M t (.pointer (some ⟨b, o, none⟩)) v = stV M b o n v := by
  cases hi : P.info? t with
  | none => rw [hi] at h; cases h
  | some i => rw [hi] at h; simp only [Option.map_some, Option.some.injEq] at h; rw [← h]; exact storeE_eq hi M b o v
def elemSz (P : Program) (t : TypeId) : Option Nat := match P.underlying t with
  | some (.slice e) => (P.info? e).map (·.size)
  | _ => none
theorem ia_eq {P : Program} {t sz : Nat} (h : elemSz P t = some sz) (b o n c : Nat) (k : IntKind) (x : Int) :
    indexAddrV P t (.slice (some ⟨b, o, none⟩) n c) (.int k x) = if 0 ≤ x ∧ x < n then some (.pointer (some ⟨b, o + x.toNat * sz, none⟩)) else none := by
  unfold elemSz at h
  split at h
  · rename_i e he
    cases hi : P.info? e with
    | none => rw [hi] at h; cases h
    | some i => rw [hi] at h; simp only [Option.map_some, Option.some.injEq] at h; rw [← h]; exact indexAddrV_slice he hi b o n c k x
  · cases h
theorem ln_eq {P : Program} {t sz : Nat} (h : elemSz P t = some sz) (a : Option Addr) (n c : Nat) : lenV P t (.slice a n c) = some (.int .i64 n) := by
  unfold elemSz at h
  split at h
  · rename_i e he; exact lenV_slice he a n c
  · cases h
def isStr (P : Program) (t : TypeId) : Bool := match P.underlying t with
  | some .string => true
  | _ => false
theorem isStr_spec {P : Program} {t : TypeId} (h : isStr P t = true) : P.underlying t = some .string := by
  unfold isStr at h
  split at h
  · assumption
  · cases h
theorem ls_eq {P : Program} {t : Nat} (h : isStr P t = true) (s : ByteArray) : lenV P t (.string s) = some (.int .i64 s.size) := lenV_str (isStr_spec h) s
def cvK (P : Program) (src dst : TypeId) : Option (Option IntKind) := match P.underlying src, P.underlying dst with
  | some _, some (.int k) => some (some k)
  | some .string, some .string => some none
  | _, _ => none
theorem cv_int {P : Program} {src dst : Nat} {k : IntKind} (h : cvK P src dst = some (some k)) (k' : IntKind) (n : Int) : convV P src dst (.int k' n) = some (.int k (k.wrap n)) := by
  unfold cvK at h
  split at h
  · rename_i d k₂ h1 h2
    simp only [Option.some.injEq] at h
    rw [← h]; exact convV_int h1 h2 k' n
  · cases h
  · cases h
theorem cv_str {P : Program} {src dst : Nat} (h : cvK P src dst = some none) (s : ByteArray) : convV P src dst (.string s) = some (.string s) := by
  unfold cvK at h
  split at h
  · cases h
  · rename_i h1 h2; exact convV_str h1 h2 s
  · cases h
def faO (P : Program) (t f : Nat) : Option Nat := match P.underlying t with
  | some (.struct fields) => match fields[f]? with
    | some fl => match P.info? fl.type with
      | some i => if i.size = 0 then none else some fl.offset
      | none => none
    | none => none
  | _ => none
theorem fa_eq {P : Program} {t f n : Nat} (h : faO P t f = some n) (b o : Nat) : fieldAddrV P t (.pointer (some ⟨b, o, none⟩)) f = some (.pointer (some ⟨b, o + n, none⟩)) := by
  unfold faO at h
  unfold fieldAddrV
  split at h
  · rename_i fields h1
    simp only [h1]
    split at h
    · rename_i fl h2
      split at h
      · rename_i i h3
        simp only [h2, h3]
        split at h
        · cases h
        · rename_i h0; cases h; simp only [h0, if_false]
      · cases h
    · cases h
  · cases h
def flO (P : Program) (t f : Nat) : Option (Bool × Nat × Nat) := match P.underlying t with
  | some (.struct fields) => match fields[f]? with
    | some fl => match P.info? fl.type, P.underlying fl.type with
      | some i, some d => some (aggT d, fl.offset, i.size)
      | _, _ => none
    | none => none
  | _ => none
theorem fl_scalar {P : Program} {t f n s : Nat} (h : flO P t f = some (false, n, s)) (cs : Array Value) : fieldV P t (.agg cs) f = cs[n]? := by
  unfold flO at h
  unfold fieldV
  split at h
  · rename_i fields h1
    simp only [h1]
    split at h
    · rename_i fl h2
      split at h
      · rename_i i d h3 h4
        simp only [Option.some.injEq, Prod.mk.injEq] at h
        simp only [h2, partV, h3, h4, h.1, h.2.1, cond_false]
      · cases h
    · cases h
  · cases h
theorem fl_agg {P : Program} {t f n s : Nat} (h : flO P t f = some (true, n, s)) (cs : Array Value) : fieldV P t (.agg cs) f = some (.agg (cs.extract n (n + s))) := by
  unfold flO at h
  unfold fieldV
  split at h
  · rename_i fields h1
    simp only [h1]
    split at h
    · rename_i fl h2
      split at h
      · rename_i i d h3 h4
        simp only [Option.some.injEq, Prod.mk.injEq] at h
        simp only [h2, partV, h3, h4, h.1, h.2.1, h.2.2, cond_true]
      · cases h
    · cases h
  · cases h
/-- a row of plain constants -/
theorem bs_eq {P : Program} {ev : Operand → Option Value} {t n e : Nat} {parts : Array (Nat × Operand)} {ps : List (Nat × Value)} (hp : evP ev parts.toList = some ps) {sz : Nat} {z : Array Value} {r : Array Value} (ht : P.underlying t = some (.slice e)) (hs : (P.info? e).map (·.size) = some sz) (hl : n * sz ≤ 16777216)
    (hz : (if n * sz = 0 then some #[] else zeroC P e) = some z) (hf : Instr.fill (fun n => some (n * sz, sz)) ((Array.range (n * sz)).map (z[· % z.size]!)) ps = some r) (hr : r.size = n * sz ∧ plains z = true ∧ (n * sz = 0 ∨ z.size ≠ 0)) :
    allocA P ev (.buildSlice t n parts) = some (⟨r.toList, e, true⟩, rowTo n n) := by
  cases hi : P.info? e with
  | none => rw [hi] at hs; cases hs
  | some i =>
    rw [hi] at hs
    simp only [Option.map_some, Option.some.injEq] at hs
    subst hs
    simp only [allocA, ht, hp, hi, hl, if_true, hz, hf, hr, and_self]

/-! ### results told anew -/
theorem Settles.plain {M M0 : Mem} {r : Value} (hp : AX.plain r = true) (hm : ∀ i b, M.get i = some b → M0.get i = some b) : Settles M r M0 r M (fun i => i) where
  next := Nat.le_refl _
  ge := fun i h1 h2 => by omega
  inj := fun i j h1 h2 => by omega
  val := RN.plain hp
  mem := fun i b h => .inl ⟨h, hm i b h⟩
/-- a row of its own, of plain cells -/
def newRow (M : Mem) (cells : List Value) (e : TypeId) : Mem := (M.put M.next ⟨cells, e, true⟩).bump 1
theorem newRow_get (M : Mem) (cells : List Value) (e : TypeId) (i : Nat) : (newRow M cells e).get i = if i = M.next then some ⟨cells, e, true⟩ else M.get i := Mem.get_put _ _ _ _
theorem newRow_next (M : Mem) (cells : List Value) (e : TypeId) : (newRow M cells e).next = M.next + 1 := rfl
theorem Settles.row {M M0 : Mem} {r r0 : Value} {id : Nat} {cells : List Value} {e : TypeId} (hid : M.next ≤ id) (hb : M0.get id = some ⟨cells, e, true⟩) (hpl : cells.all AX.plain = true)
    (hm : ∀ i b, M.get i = some b → M0.get i = some b) (hr : RN (rn M.next fun _ => id) (M.next + 1) r r0) : Settles M r0 M0 r (newRow M cells e) (fun _ => id) where
  next := by rw [newRow_next]; omega
  ge := fun i h1 h2 => hid
  inj := fun i j h1 h2 h3 h4 _ => by rw [newRow_next] at h2 h4; omega
  val := hr
  mem := fun i b h => by
    rw [newRow_get] at h
    by_cases hi : i = M.next
    · simp only [hi, if_true, Option.some.injEq] at h
      subst h
      refine .inr ⟨by rw [newRow_next]; omega, _, by rw [show rn M.next (fun _ => id) i = id by simp [rn, hi]]; exact hb, rfl, fun h => h, RNL.plain hpl⟩
    · simp only [hi, if_false] at h
      exact .inl ⟨h, hm i b h⟩

theorem beqT (b : Bool) : (b == true) = b := by cases b <;> rfl
theorem beqF (b : Bool) : (b == false) = !b := by cases b <;> rfl
theorem dstLt_some (k d : Nat) : dstLt k (some d) = decide (d < k) := rfl
theorem dstLt_none (k : Nat) : dstLt k none = true := rfl

/-! ### the steps of a region, told so that only what is looked at is worked out -/
def onB (b : Bool) (f : Unit → Prop) : Prop := bif b then f () else False
def onO {α : Type} (x : Option α) (f : α → Prop) : Prop := match x with
  | some v => f v
  | none => False
def onC {α : Type} (x : Option α) (f : α → Prop) (g : Unit → Prop) : Prop := match x with
  | some v => f v
  | none => g ()
def onK (k : Kind) (a b c d e : Unit → Prop) : Prop := match k with
  | .pure => a ()
  | .read => b ()
  | .alloc => c ()
  | .eff => d ()
  | .call => e ()
def onW (x : Option Bool) (f g : Unit → Prop) : Prop := match x with
  | some true => f ()
  | some false => g ()
  | none => False
theorem onB_true (f : Unit → Prop) : onB true f = f () := rfl
theorem onO_some {α : Type} (v : α) (f : α → Prop) : onO (some v) f = f v := rfl
theorem onC_some {α : Type} (v : α) (f : α → Prop) (g : Unit → Prop) : onC (some v) f g = f v := rfl
theorem onC_none {α : Type} (f : α → Prop) (g : Unit → Prop) : onC none f g = g () := rfl
theorem onK_pure (a b c d e : Unit → Prop) : onK .pure a b c d e = a () := rfl
theorem onK_read (a b c d e : Unit → Prop) : onK .read a b c d e = b () := rfl
theorem onK_alloc (a b c d e : Unit → Prop) : onK .alloc a b c d e = c () := rfl
theorem onK_eff (a b c d e : Unit → Prop) : onK .eff a b c d e = d () := rfl
theorem onK_call (a b c d e : Unit → Prop) : onK .call a b c d e = e () := rfl
theorem onW_true (f g : Unit → Prop) : onW (some true) f g = f () := rfl
theorem onW_false (f g : Unit → Prop) : onW (some false) f g = g () := rfl

section
variable (P : Program) (ops : Array Oper) (k n0 : Nat) (l : List Oper) (r : Nat) (e : Env) (d : Option Nat) (M : Mem) (K : Env → Mem → Prop) (o : Oper)
def kV (v : Value) : Prop := wpS P ops k n0 l r (e.put d v) M K
def kA (x : Blk × (Nat → Value)) : Prop := wpS P ops k n0 l (r + 1) (e.put d (x.2 (n0 + r))) (M.put (n0 + r) x.1) K
def kE (x : Value × Mem) : Prop := wpS P ops k n0 l r (e.put d x.1) x.2 K
def kC (x : FuncId × Array Value) : Prop := ∃ v M', ACall P x.1 x.2 M v M' ∧ wpS P ops k n0 l r (e.put d v) M' K
def kN (_ : Unit) : Prop := ∃ v M', Known (aev e) o ∧ EffOk P o (aev e) M v M' ∧ wpS P ops k n0 l r (e.put d v) M' K
def kU (_ : Unit) : Prop := wpS P ops k n0 l r (e.put d undef) M K
def sP (_ : Unit) : Prop := onO (pureV P (aev e) o) (kV P ops k n0 l r e o.dst M K)
def sR (_ : Unit) : Prop := onO (readV P (aev e) M.get o) (kV P ops k n0 l r e o.dst M K)
def sA (_ : Unit) : Prop := onO (allocA P (aev e) o.op) (kA P ops k n0 l r e o.dst M K)
def sE (_ : Unit) : Prop := onO (effV P (aev e) M o) (kE P ops k n0 l r e o.dst K)
def sC (_ : Unit) : Prop := onC (callOf P (aev e) o) (kC P ops k n0 l r e o.dst M K) (kN P ops k n0 l r e o.dst M K o)
def sT (_ : Unit) : Prop := onK (kindOf P o) (sP P ops k n0 l r e M K o) (sR P ops k n0 l r e M K o) (sA P ops k n0 l r e M K o) (sE P ops k n0 l r e M K o) (sC P ops k n0 l r e M K o)
def sF (_ : Unit) : Prop := onK (kindOf P o) (kU P ops k n0 l r e o.dst M K) (kU P ops k n0 l r e o.dst M K) (kU P ops k n0 l (r + 1) e o.dst M K) (kU P ops k n0 l r e o.dst M K) (kU P ops k n0 l r e o.dst M K)
def sW (_ : Unit) : Prop := onW (wantA ops e o) (sT P ops k n0 l r e M K o) (sF P ops k n0 l r e M K o)
theorem kV_eq (v : Value) : kV P ops k n0 l r e d M K v = wpS P ops k n0 l r (e.put d v) M K := rfl
theorem kA_eq (b : Blk) (f : Nat → Value) : kA P ops k n0 l r e d M K (b, f) = wpS P ops k n0 l (r + 1) (e.put d (f (n0 + r))) (M.put (n0 + r) b) K := rfl
theorem kE_eq (v : Value) (M' : Mem) : kE P ops k n0 l r e d K (v, M') = wpS P ops k n0 l r (e.put d v) M' K := rfl
theorem kC_eq (f : FuncId) (xs : Array Value) : kC P ops k n0 l r e d M K (f, xs) = ∃ v M', ACall P f xs M v M' ∧ kE P ops k n0 l r e d K (v, M') := rfl
theorem kU_eq : kU P ops k n0 l r e d M K () = wpS P ops k n0 l r (e.put d undef) M K := rfl
theorem sP_eq : sP P ops k n0 l r e M K o () = onO (pureV P (aev e) o) (kV P ops k n0 l r e o.dst M K) := rfl
theorem sR_eq : sR P ops k n0 l r e M K o () = onO (readV P (aev e) M.get o) (kV P ops k n0 l r e o.dst M K) := rfl
theorem sA_eq : sA P ops k n0 l r e M K o () = onO (allocA P (aev e) o.op) (kA P ops k n0 l r e o.dst M K) := rfl
theorem sE_eq : sE P ops k n0 l r e M K o () = onO (effV P (aev e) M o) (kE P ops k n0 l r e o.dst K) := rfl
theorem sC_eq : sC P ops k n0 l r e M K o () = onC (callOf P (aev e) o) (kC P ops k n0 l r e o.dst M K) (kN P ops k n0 l r e o.dst M K o) := rfl
theorem sT_eq : sT P ops k n0 l r e M K o () = onK (kindOf P o) (sP P ops k n0 l r e M K o) (sR P ops k n0 l r e M K o) (sA P ops k n0 l r e M K o) (sE P ops k n0 l r e M K o) (sC P ops k n0 l r e M K o) := rfl
theorem sF_eq : sF P ops k n0 l r e M K o () = onK (kindOf P o) (kU P ops k n0 l r e o.dst M K) (kU P ops k n0 l r e o.dst M K) (kU P ops k n0 l (r + 1) e o.dst M K) (kU P ops k n0 l r e o.dst M K) (kU P ops k n0 l r e o.dst M K) := rfl
theorem sW_eq : sW P ops k n0 l r e M K o () = onW (wantA ops e o) (sT P ops k n0 l r e M K o) (sF P ops k n0 l r e M K o) := rfl
theorem wpS_nil : wpS P ops k n0 [] r e M K = K e M := rfl
theorem wpS_cons : wpS P ops k n0 (o :: l) r e M K = onB (dstLt k o.dst) (sW P ops k n0 l r e M K o) := by
  simp only [wpS, onB, sW, onW, sT, sF, onK, sP, sR, sA, sE, sC, onO, onC, kV, kA, kE, kC, kN, kU]
  cases dstLt k o.dst with
  | false => rfl
  | true =>
    simp only [cond_true]
    rcases wantA ops e o with _ | _ | _
    · rfl
    · cases kindOf P o <;> rfl
    · cases kindOf P o with
      | pure => rcases pureV P (aev e) o with _ | _ <;> rfl
      | read => rcases readV P (aev e) M.get o with _ | _ <;> rfl
      | alloc => rcases allocA P (aev e) o.op with _ | _ <;> rfl
      | eff => rcases effV P (aev e) M o with _ | _ <;> rfl
      | call => rcases callOf P (aev e) o with _ | _ <;> rfl
end

section
variable (P : Program) (ops : Array Oper) (k n0 : Nat) (A U : List (Nat × Nat)) (i : Nat) (l : List (Nat × Oper)) (r : Nat) (e : Env) (d : Option Nat) (M B : Mem) (al : List (Nat × Nat × Blk)) (log : List (Nat × Mem)) (rl : List (Nat × Oper × Env × Value)) (K : Env → Mem → Prop) (o : Oper)
def dV (v : Value) : Prop := wpD P ops k n0 A U l r (e.put d v) M B al log rl K
def dR (v : Value) : Prop := allLog U i (fun B' => readV P (aev e) (withA A al i B'.get) o = some v) log ∧ wpD P ops k n0 A U l r (e.put d v) M B al log ((i, o, e, v) :: rl) K
def dA (x : Blk × (Nat → Value)) : Prop := wpD P ops k n0 A U l (r + 1) (e.put d (x.2 (n0 + r))) (M.put (n0 + r) x.1) B ((i, n0 + r, x.1) :: al) log rl K
def dE (x : Value × Mem) : Prop := allRl P U i x.2.get rl ∧ wpD P ops k n0 A U l r (e.put d x.1) x.2 x.2 [] ((i, B) :: log) rl K
def dC (x : FuncId × Array Value) : Prop := ∃ v M', ACall P x.1 x.2 M v M' ∧ allRl P U i M'.get rl ∧ wpD P ops k n0 A U l r (e.put d v) M' M' [] ((i, B) :: log) rl K
def dN (_ : Unit) : Prop := ∃ v M', Known (aev e) o ∧ EffOk P o (aev e) M v M' ∧ allRl P U i M'.get rl ∧ wpD P ops k n0 A U l r (e.put d v) M' M' [] ((i, B) :: log) rl K
def dU (_ : Unit) : Prop := wpD P ops k n0 A U l r (e.put d undef) M B al log rl K
def dU' (_ : Unit) : Prop := allRl P U i M.get rl ∧ wpD P ops k n0 A U l r (e.put d undef) M M [] ((i, B) :: log) rl K
def tP (_ : Unit) : Prop := onO (pureV P (aev e) o) (dV P ops k n0 A U l r e o.dst M B al log rl K)
def tR (_ : Unit) : Prop := onO (readV P (aev e) (withA A al i B.get) o) (dR P ops k n0 A U i l r e o.dst M B al log rl K o)
def tA (_ : Unit) : Prop := onO (allocA P (aev e) o.op) (dA P ops k n0 A U i l r e o.dst M B al log rl K)
def tE (_ : Unit) : Prop := onO (effV P (aev e) M o) (dE P ops k n0 A U i l r e o.dst B log rl K)
def tC (_ : Unit) : Prop := onC (callOf P (aev e) o) (dC P ops k n0 A U i l r e o.dst M B log rl K) (dN P ops k n0 A U i l r e o.dst M B log rl K o)
def tT (_ : Unit) : Prop := onK (kindOf P o) (tP P ops k n0 A U l r e M B al log rl K o) (tR P ops k n0 A U i l r e M B al log rl K o) (tA P ops k n0 A U i l r e M B al log rl K o) (tE P ops k n0 A U i l r e M B log rl K o) (tC P ops k n0 A U i l r e M B log rl K o)
def tF (_ : Unit) : Prop := onK (kindOf P o) (dU P ops k n0 A U l r e o.dst M B al log rl K) (dU P ops k n0 A U l r e o.dst M B al log rl K) (dU P ops k n0 A U l (r + 1) e o.dst M B al log rl K) (dU' P ops k n0 A U i l r e o.dst M B log rl K) (dU' P ops k n0 A U i l r e o.dst M B log rl K)
theorem dV_eq (v : Value) : dV P ops k n0 A U l r e d M B al log rl K v = wpD P ops k n0 A U l r (e.put d v) M B al log rl K := rfl
theorem dR_eq (v : Value) : dR P ops k n0 A U i l r e d M B al log rl K o v = (allLog U i (fun B' => readV P (aev e) (withA A al i B'.get) o = some v) log ∧ wpD P ops k n0 A U l r (e.put d v) M B al log ((i, o, e, v) :: rl) K) := rfl
theorem dA_eq (b : Blk) (f : Nat → Value) : dA P ops k n0 A U i l r e d M B al log rl K (b, f) = wpD P ops k n0 A U l (r + 1) (e.put d (f (n0 + r))) (M.put (n0 + r) b) B ((i, n0 + r, b) :: al) log rl K := rfl
theorem dE_eq (v : Value) (M' : Mem) : dE P ops k n0 A U i l r e d B log rl K (v, M') = (allRl P U i M'.get rl ∧ wpD P ops k n0 A U l r (e.put d v) M' M' [] ((i, B) :: log) rl K) := rfl
theorem dC_eq (f : FuncId) (xs : Array Value) : dC P ops k n0 A U i l r e d M B log rl K (f, xs) = ∃ v M', ACall P f xs M v M' ∧ dE P ops k n0 A U i l r e d B log rl K (v, M') := rfl
theorem dU_eq : dU P ops k n0 A U l r e d M B al log rl K () = wpD P ops k n0 A U l r (e.put d undef) M B al log rl K := rfl
theorem dU'_eq : dU' P ops k n0 A U i l r e d M B log rl K () = (allRl P U i M.get rl ∧ wpD P ops k n0 A U l r (e.put d undef) M M [] ((i, B) :: log) rl K) := rfl
theorem tP_eq : tP P ops k n0 A U l r e M B al log rl K o () = onO (pureV P (aev e) o) (dV P ops k n0 A U l r e o.dst M B al log rl K) := rfl
theorem tR_eq : tR P ops k n0 A U i l r e M B al log rl K o () = onO (readV P (aev e) (withA A al i B.get) o) (dR P ops k n0 A U i l r e o.dst M B al log rl K o) := rfl
theorem tA_eq : tA P ops k n0 A U i l r e M B al log rl K o () = onO (allocA P (aev e) o.op) (dA P ops k n0 A U i l r e o.dst M B al log rl K) := rfl
theorem tE_eq : tE P ops k n0 A U i l r e M B log rl K o () = onO (effV P (aev e) M o) (dE P ops k n0 A U i l r e o.dst B log rl K) := rfl
theorem tC_eq : tC P ops k n0 A U i l r e M B log rl K o () = onC (callOf P (aev e) o) (dC P ops k n0 A U i l r e o.dst M B log rl K) (dN P ops k n0 A U i l r e o.dst M B log rl K o) := rfl
theorem tT_eq : tT P ops k n0 A U i l r e M B al log rl K o () = onK (kindOf P o) (tP P ops k n0 A U l r e M B al log rl K o) (tR P ops k n0 A U i l r e M B al log rl K o) (tA P ops k n0 A U i l r e M B al log rl K o) (tE P ops k n0 A U i l r e M B log rl K o) (tC P ops k n0 A U i l r e M B log rl K o) := rfl
theorem tF_eq : tF P ops k n0 A U i l r e M B al log rl K o () = onK (kindOf P o) (dU P ops k n0 A U l r e o.dst M B al log rl K) (dU P ops k n0 A U l r e o.dst M B al log rl K) (dU P ops k n0 A U l (r + 1) e o.dst M B al log rl K) (dU' P ops k n0 A U i l r e o.dst M B log rl K) (dU' P ops k n0 A U i l r e o.dst M B log rl K) := rfl
theorem wpD_nil : wpD P ops k n0 A U [] r e M B al log rl K = K e M := rfl
theorem wpD_cons : wpD P ops k n0 A U ((i, o) :: l) r e M B al log rl K = onW (wantA ops e o) (tT P ops k n0 A U i l r e M B al log rl K o) (tF P ops k n0 A U i l r e M B al log rl K o) := by
  simp only [wpD, onW, tT, tF, onK, tP, tR, tA, tE, tC, onO, onC, dV, dR, dA, dE, dC, dN, dU, dU']
  rcases wantA ops e o with _ | _ | _
  · rfl
  · cases kindOf P o <;> rfl
  · cases kindOf P o with
    | pure => rcases pureV P (aev e) o with _ | _ <;> rfl
    | read => rcases readV P (aev e) (withA A al i B.get) o with _ | _ <;> rfl
    | alloc => rcases allocA P (aev e) o.op with _ | _ <;> rfl
    | eff => rcases effV P (aev e) M o with _ | _ <;> rfl
    | call => rcases callOf P (aev e) o with _ | _ <;> rfl
end

attribute [go_sem] wpS_nil wpS_cons wpD_nil wpD_cons onB_true onO_some onC_some onK_pure onK_read onK_alloc onK_eff onK_call onW_true onW_false kV_eq kA_eq kE_eq kC_eq kU_eq sP_eq sR_eq sA_eq sE_eq sC_eq sT_eq sF_eq sW_eq dV_eq dR_eq dA_eq dE_eq dC_eq dU_eq dU'_eq tP_eq tR_eq tA_eq tE_eq tC_eq tT_eq tF_eq nAl kindOf dstLt_some dstLt_none wantA pureV readV effV callOf aev plain Env.put Env.set Env.del Env.get Env.keep argEnv evL evP evO binV_int binV_str intBin strBin unV cond_true cond_false Mem.bump_zero Then InBlock resV retV beq_iff decide_true decide_false List.map allLog allRl inP withA opAt List.getElem?_toArray List.getElem?_cons_succ List.getElem?_cons_zero Option.bind_some Option.getD_some true_and if_true if_false beqT beqF Bool.not_true Bool.not_false
end Go.Proofs.Ythheaehpnleiaaa.AX
