/- The layer, seventh part: operations that leave the memory as it is, and that do not look at it. -/
import Derived.Test.YthheaehpnleiaaaAxF
import Derived.Laws.Sem
import Derived.Laws.Entries
import Derived.Laws.Cells
import Derived.Laws.Append
import Derived.Laws.StructEq
import Derived.Room.AppendAsks
import Derived.Room.AppendUpon
namespace Go.Proofs.Ythheaehpnleiaaa.AX
open Go
set_option linter.unusedVariables false
set_option linter.unusedSimpArgs false

theorem StillOk.of_run {P : Program} {o : Oper} {ev : Operand → Option Value} {m : Mm} {v : Value}
    (h : ∀ ρ a w, Opnds P ρ ev o a → HR P ρ m w → ∃ v', (execOp a.eval o).run P w = .ok (.value v') w ∧ VR P ρ v v') : StillOk P o ev m v := by
  intro ρ a w K Q ho hr hk
  obtain ⟨v', hv, hrel⟩ := h ρ a w ho hr
  unfold Oper.wp
  rw [hv]
  exact hk v' w hrel hr (Ext.refl _ _ _)

/-- what an operand is told to be, it is -/
theorem Opnds.at {P : Program} {ρ : Emb} {ev : Operand → Option Value} {o : Oper} {a : Act} (h : Opnds P ρ ev o a) {x : Operand} (hx : x ∈ o.op.operands) {v : Value} (hv : ev x = some v) : VR P ρ v (a.eval x) := by
  obtain ⟨u, h1, h2⟩ := h x hx
  rw [hv] at h1; cases h1; exact h2

def intBin (op : BinOp) (k : IntKind) (a b : Int) : Option Value := match op with
  | .add => some (.int k (k.wrap (a + b)))
  | .sub => some (.int k (k.wrap (a - b)))
  | .mul => some (.int k (k.wrap (a * b)))
  | .quo => if b = 0 then none else some (.int k (k.wrap (a.tdiv b)))
  | .rem => if b = 0 then none else some (.int k (a.tmod b))
  | .and => some (.int k (k.wrap (BitVec.ofInt k.bits a &&& BitVec.ofInt k.bits b).toNat))
  | .or => some (.int k (k.wrap (BitVec.ofInt k.bits a ||| BitVec.ofInt k.bits b).toNat))
  | .xor => some (.int k (k.wrap (BitVec.ofInt k.bits a ^^^ BitVec.ofInt k.bits b).toNat))
  | .andNot => some (.int k (k.wrap (BitVec.ofInt k.bits a &&& ~~~BitVec.ofInt k.bits b).toNat))
  | .shl => if b < 0 then none else some (.int k (k.wrap (a * 2 ^ (min b.toNat k.bits))))
  | .shr => if b < 0 then none else some (.int k (a.fdiv (2 ^ (min b.toNat k.bits))))
  | .eql => some (.bool (a == b))
  | .neq => some (.bool (a != b))
  | .lss => some (.bool (a < b))
  | .leq => some (.bool (a ≤ b))
  | .gtr => some (.bool (a > b))
  | .geq => some (.bool (a ≥ b))

def strBin (op : BinOp) (x y : ByteArray) : Option Value := match op with
  | .add => if ((x.size + y.size : Nat) : Int) > 9223372036854775807 then none else some (.string (x ++ y))
  | .eql => some (.bool (x.toList == y.toList))
  | .neq => some (.bool (!(x.toList == y.toList)))
  | .lss => some (.bool (Op.bytesLess x.toList y.toList))
  | .leq => some (.bool (Op.bytesLess x.toList y.toList || x.toList == y.toList))
  | .gtr => some (.bool (!(Op.bytesLess x.toList y.toList || x.toList == y.toList)))
  | .geq => some (.bool (!(Op.bytesLess x.toList y.toList)))
  | _ => none

def eq0 (P : Program) (t : TypeId) (x y : Value) : Option Bool := match P.underlying t, x, y with
  | some .bool, .bool a, .bool b => some (a == b)
  | some (.slice _), .slice none _ _, .slice none _ _ => some true
  | some (.slice _), .slice none _ _, .slice (some _) _ _ => some false
  | some (.slice _), .slice (some _) _ _, .slice none _ _ => some false
  | some (.pointer _), .pointer none, .pointer none => some true
  | some (.pointer _), .pointer none, .pointer (some _) => some false
  | some (.pointer _), .pointer (some _), .pointer none => some false
  | some (.interface _), .nilIface, .iface _ _ => some false
  | some (.interface _), .iface _ _, .nilIface => some false
  | some (.func _ _ _), .nilFunc, .nilFunc => some true
  | some (.func _ _ _), .nilFunc, .func _ _ _ => some false
  | some (.func _ _ _), .func _ _ _, .nilFunc => some false
  | _, _, _ => none

def eqS (P : Program) (t : TypeId) (x y : Value) : Option Bool := match P.underlying t, x, y with
  | some (.int _), .int k a, .int k' b => if k = k' then some (a == b) else none
  | some .string, .string a, .string b => some (a.toList == b.toList)
  | _, x, y => eq0 P t x y
/-- a value's part -/
def aggT : TypeDesc → Bool
  | .struct _ => true
  | .array _ _ => true
  | _ => false
def partV (P : Program) (t : TypeId) (cs : Array Value) (off : Nat) : Option Value := match P.info? t, P.underlying t with
  | some i, some d => bif aggT d then some (.agg (cs.extract off (off + i.size))) else cs[off]?
  | _, _ => none
def eqFl (P : Program) (xs ys : Array Value) : List Field → Option Bool
  | [] => some true
  | f :: fs => if f.name ≠ "_" then match partV P f.type xs f.offset, partV P f.type ys f.offset with
      | some a, some b => match eqS P f.type a b with
        | some true => eqFl P xs ys fs
        | some false => some false
        | none => none
      | _, _ => none
    else eqFl P xs ys fs
def eqV (P : Program) (t : TypeId) (x y : Value) : Option Bool := match x, y with
  | .agg xs, .agg ys => match P.underlying t with
    | some (.struct fs) => if P.stoodInHeld t = false ∧ P.eqGuardType P.depth t = false then eqFl P xs ys fs.toList else none
    | _ => none
  | x, y => eq0 P t x y

def binV (P : Program) (op : BinOp) (t : TypeId) (x y : Value) : Option Value := match x, y with
  | .int k a, .int k' b => if k = k' ∨ op = .shl ∨ op = .shr then intBin op k a b else none
  | .string a, .string b => strBin op a b
  | x, y => match op with
    | .eql => (eqV P t x y).map Value.bool
    | .neq => (eqV P t x y).map fun b => Value.bool (!b)
    | _ => none

theorem run_isAgg {P : Program} {w : World} {t : TypeId} {d : TypeDesc} (h : P.underlying t = some d) : (isAgg t).run P w = .ok (aggT d) w := by
  cases d <;> simp [isAgg, run_underlying h, aggT]
theorem run_sizeOf' {P : Program} {w : World} {t : TypeId} {i : TypeInfo} (h : P.info? t = some i) : (sizeOf t).run P w = .ok i.size w := by simp [sizeOf, typeInfo, h]
theorem VRs.get {P : Program} {ρ : Emb} {xs xs' : Array Value} (h : VRs P ρ xs xs') {i : Nat} {v : Value} (hv : xs[i]? = some v) : ∃ v', xs'[i]? = some v' ∧ VR P ρ v v' := by
  have hlt : i < xs.size := (Array.getElem?_eq_some_iff.1 hv).1
  have hlt' : i < xs'.size := by have := h.1; omega
  exact ⟨xs'[i], by simp [hlt'], h.2 i v xs'[i] hv (by simp [hlt'])⟩
theorem VRs.extract {P : Program} {ρ : Emb} {xs xs' : Array Value} (h : VRs P ρ xs xs') (i j : Nat) : VRs P ρ (xs.extract i j) (xs'.extract i j) := by
  refine ⟨by simp [h.1], fun n v v' hv hv' => ?_⟩
  rw [Array.getElem?_extract] at hv hv'
  split at hv
  · split at hv'
    · exact h.2 _ v v' hv hv'
    · cases hv'
  · cases hv
theorem run_part {P : Program} {w : World} {ρ : Emb} {t : TypeId} {cs cs' : Array Value} {off : Nat} {v : Value} (h : partV P t cs off = some v) (hx : VRs P ρ cs cs') : ∃ v', (part t cs' off).run P w = .ok v' w ∧ VR P ρ v v' := by
  unfold partV at h
  split at h
  · rename_i i d h2 h1
    cases hd : aggT d with
    | true =>
      simp only [hd, cond_true, Option.some.injEq] at h; subst h
      have := hx.extract off (off + i.size)
      refine ⟨_, ?_, .agg this.1 this.2⟩
      simp only [part, Sem.run_bind, run_isAgg h1, hd, Result.andThen_ok, if_true, run_sizeOf' h2, Sem.run_pure]
    | false =>
      simp only [hd, cond_false] at h
      obtain ⟨v', h3, h4⟩ := hx.get h
      refine ⟨v', ?_, h4⟩
      simp only [part, Sem.run_bind, run_isAgg h1, hd, Result.andThen_ok, h3]; rfl
  · cases h
theorem run_eq0 {P : Program} {w : World} {ρ : Emb} {t : TypeId} {x y x' y' : Value} {b : Bool} (d : Nat) (h : eq0 P t x y = some b) (hx : VR P ρ x x') (hy : VR P ρ y y') : (Op.equalIn (d + 1) t x' y').run P w = .ok b w := by
  unfold eq0 at h
  split at h
  all_goals first
    | (cases h; done)
    | (rename_i hu; cases hx <;> cases hy <;> (simp only [Option.some.injEq] at h; subst h; simp only [Op.equalIn, Sem.run_bind, run_underlying hu, Result.andThen_ok]; rfl))
theorem run_eqS {P : Program} {w : World} {ρ : Emb} {t : TypeId} {x y x' y' : Value} {b : Bool} (d : Nat) (h : eqS P t x y = some b) (hx : VR P ρ x x') (hy : VR P ρ y y') : (Op.equalIn (d + 1) t x' y').run P w = .ok b w := by
  unfold eqS at h
  split at h
  · rename_i k' k a k'' c hu
    cases hx; cases hy
    split at h
    · rename_i hk
      subst hk
      simp only [Option.some.injEq] at h; subst h
      exact run_equalIn_int w d t k k' a c hu
    · cases h
  · rename_i a c hu
    cases hx; cases hy
    simp only [Option.some.injEq] at h; subst h
    exact run_equalIn_string w d t a c hu
  · exact run_eq0 d h hx hy
theorem run_eqFl {P : Program} {w : World} {ρ : Emb} {xs ys xs' ys' : Array Value} (d : Nat) (hx : VRs P ρ xs xs') (hy : VRs P ρ ys ys') : ∀ {fs : List Field} {b : Bool}, eqFl P xs ys fs = some b → (Op.eqFields (d + 1) xs' ys' fs).run P w = .ok b w := by
  intro fs
  induction fs with
  | nil => intro b h; simp only [eqFl, Option.some.injEq] at h; subst h; rfl
  | cons f fs ih =>
    intro b h
    simp only [eqFl] at h
    simp only [Op.eqFields]
    by_cases hn : f.name ≠ "_"
    · rw [if_pos hn] at h ⊢
      split at h
      · rename_i u v h1 h2
        obtain ⟨u', g1, g2⟩ := run_part (w := w) h1 hx
        obtain ⟨v', g3, g4⟩ := run_part (w := w) h2 hy
        simp only [Sem.run_bind, g1, g3, Result.andThen_ok]
        split at h
        · rename_i he
          rw [run_eqS d he g2 g4]
          simpa using ih h
        · rename_i he
          cases h
          rw [run_eqS d he g2 g4]
          rfl
        · cases h
      · cases h
    · rw [if_neg hn] at h ⊢
      exact ih h
theorem run_equal {P : Program} {w : World} {ρ : Emb} {t : TypeId} {x y x' y' : Value} {b : Bool} (h : eqV P t x y = some b) (hx : VR P ρ x x') (hy : VR P ρ y y') : (Op.equal t x' y').run P w = .ok b w := by
  unfold eqV at h
  split at h
  · rename_i xs ys
    cases hx with
    | agg h1 h2 =>
      cases hy with
      | agg h3 h4 =>
        split at h
        · rename_i fs hu
          split at h
          · rename_i hc
            have hfo : P.fieldsOf t = fs := by simp [Program.fieldsOf, hu]
            exact (run_equalIn_struct (P := P) w 9999 t _ _ (by rw [hfo]; exact hu) hc.1).trans (by rw [hfo]; exact run_eqFl 9998 ⟨h1, h2⟩ ⟨h3, h4⟩ h)
          · cases h
        · cases h
  · exact run_eq0 9999 h hx hy
theorem run_eqGuard {P : Program} {w : World} {ρ : Emb} {op : BinOp} {t : TypeId} {x y x' y' : Value} {p q : Operand} {b : Bool} (h : eqV P t x y = some b) (hx : VR P ρ x x') (hy : VR P ρ y y') : (eqGuard op t p q x' y').run P w = .ok () w := by
  unfold eqV at h
  split at h
  · cases hx with
    | agg h1 h2 =>
      cases hy with
      | agg h3 h4 =>
        split at h
        · split at h
          · rename_i hc; exact run_eqGuard_agg w op t p q _ _ hc.2
          · cases h
        · cases h
  · unfold eq0 at h
    split at h
    all_goals first
      | (cases h; done)
      | (cases hx <;> cases hy <;> (unfold eqGuard; cases op <;> simp))

theorem run_binOp {P : Program} {w : World} {ρ : Emb} {op : BinOp} {t : TypeId} {x y x' y' v : Value} {p q : Operand} (h : binV P op t x y = some v) (hx : VR P ρ x x') (hy : VR P ρ y y') :
    ∃ v', (do eqGuard op t p q x' y'; binOp op t x' y').run P w = .ok v' w ∧ VR P ρ v v' := by
  unfold binV at h
  split at h
  · rename_i k a k' b
    cases hx; cases hy
    split at h
    · rename_i hk
      have hg : (eqGuard op t p q (.int k a) (.int k' b)).run P w = .ok () w := by unfold eqGuard; cases op <;> simp
      cases op <;> simp only [intBin] at h
      all_goals first
        | (simp only [reduceCtorEq, or_false] at hk; subst hk)
        | skip
      all_goals first
        | (cases h; refine ⟨_, ?_, by constructor⟩; simp only [Sem.run_bind, hg, Result.andThen_ok]; simp [binOp, Op.intArith, Op.intBits, Op.intCmp]; done)
        | (split at h
           · cases h
           · rename_i hb; cases h; refine ⟨_, ?_, by constructor⟩; simp only [Sem.run_bind, hg, Result.andThen_ok]; simp [binOp, Op.intDiv, Op.shift, hb])
    · cases h
  · rename_i a b
    cases hx; cases hy
    have hg : (eqGuard op t p q (.string a) (.string b)).run P w = .ok () w := by unfold eqGuard; cases op <;> simp
    cases op <;> simp only [strBin] at h <;> try (cases h; done)
    all_goals first
      | (cases h; refine ⟨_, ?_, by constructor⟩; simp only [Sem.run_bind, hg, Result.andThen_ok]; simp [binOp, Op.stringOp]; done)
      | (split at h
         · cases h
         · rename_i hb; cases h; refine ⟨_, ?_, by constructor⟩; simp only [Sem.run_bind, hg, Result.andThen_ok]; simp only [binOp, Op.stringOp]; rw [if_neg (by simpa [IntKind.max, IntKind.signed, IntKind.bits] using hb)]; rfl)
  · rename_i hni hns
    have key : ∀ b, eqV P t x y = some b → (binOp .eql t x' y') = (do pure (.bool (← Op.equal t x' y'))) ∧ (binOp .neq t x' y') = (do pure (.bool (!(← Op.equal t x' y')))) := by
      intro b hb
      unfold eqV at hb
      split at hb
      · cases hx; cases hy; exact ⟨rfl, rfl⟩
      · unfold eq0 at hb
        split at hb
        all_goals first
          | (cases hb; done)
          | (cases hx <;> cases hy <;> exact ⟨rfl, rfl⟩)
    split at h
    · cases he : eqV P t x y with
      | none => simp [he] at h
      | some b =>
        simp only [he, Option.map_some, Option.some.injEq] at h; subst h
        refine ⟨.bool b, ?_, .bool b⟩
        simp only [Sem.run_bind, run_eqGuard he hx hy, Result.andThen_ok, (key b he).1, run_equal he hx hy, Sem.run_pure]
    · cases he : eqV P t x y with
      | none => simp [he] at h
      | some b =>
        simp only [he, Option.map_some, Option.some.injEq] at h; subst h
        refine ⟨.bool (!b), ?_, .bool _⟩
        simp only [Sem.run_bind, run_eqGuard he hx hy, Result.andThen_ok, (key b he).2, run_equal he hx hy, Sem.run_pure]
    · cases h

def unV (op : UnOp) (x : Value) : Option Value := match op, x with
  | .neg, .int k n => some (.int k (k.wrap (0 - n)))
  | .xor, .int k n => intBin .xor k (if k.signed then -1 else k.max) n
  | .not, .bool b => some (.bool (!b))
  | _, _ => none
theorem run_unOp {P : Program} {w : World} {ρ : Emb} {op : UnOp} {x x' v : Value} (h : unV op x = some v) (hx : VR P ρ x x') : ∃ v', (Op.unary op x').run P w = .ok v' w ∧ VR P ρ v v' := by
  unfold unV at h
  split at h
  · cases hx; cases h; exact ⟨_, rfl, .int _ _⟩
  · cases hx; simp only [intBin] at h; cases h; exact ⟨_, rfl, .int _ _⟩
  · cases hx; cases h; exact ⟨_, rfl, .bool _⟩
  · cases h

/-- conversions that look at no memory -/
def convV (P : Program) (src dst : TypeId) (x : Value) : Option Value := match P.underlying src, P.underlying dst, x with
  | some _, some (.int k), .int _ n => some (.int k (k.wrap n))
  | some _, some .string, .string s => some (.string s)
  | _, _, _ => none
theorem run_conv {P : Program} {w : World} {ρ : Emb} {src dst : TypeId} {x x' v : Value} (h : convV P src dst x = some v) (hx : VR P ρ x x') : ∃ v', (convert src dst x').run P w = .ok v' w ∧ VR P ρ v v' := by
  unfold convV at h
  split at h
  · rename_i d k k' n h1 h2
    cases hx; cases h
    refine ⟨_, ?_, .int _ _⟩
    unfold convert
    simp [run_underlying h1, run_underlying h2, Conv.intToInt]
  · rename_i d s h1 h2
    cases hx; cases h
    refine ⟨_, ?_, .string _⟩
    unfold convert
    simp [run_underlying h1, run_underlying h2]
  · cases h

end Go.Proofs.Ythheaehpnleiaaa.AX
