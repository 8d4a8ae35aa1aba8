/- An own layer over the machine's semantics: abstract memory and values, and what it means that a world bears them. -/
import Derived.Orders
import Derived.LoopN
import Derived.Items
import Derived.ControlIn
import Derived.LoopNIn
import Derived.OrdersIn
import Derived.CallsIn
import Derived.RangeFuncLeaves
import Derived.RangeFuncRecord
import Derived.Laws.Sem
import Derived.Laws.Entries
import Derived.Laws.Cells
import Derived.Laws.Append
import Derived.Laws.StructEq
import Derived.Room.AppendAsks
import Derived.Room.AppendUpon
import Derived.Laws.Slices
import Derived.Laws.BytesString
namespace Go.Proofs.YtopblipficpilaaGreatDoor.AY
open Go
set_option linter.unusedVariables false
set_option linter.unusedSimpArgs false

/-- a block of abstract memory: its cells, the type of its rows, whether it may be written -/
structure Blk where
  cells : List Value
  elem : TypeId
  rw : Bool

/-- where a block lies: the world's block, how far in, how many cells that has, the type of its rows -/
structure Inf where
  blk : Nat
  shift : Nat
  room : Nat
  elem : TypeId

abbrev Emb := Nat → Option Inf
abbrev Mm := Nat → Option Blk

/-- the capacity of which nothing is known -/
def unk : Nat := 18446744073709551616

inductive VR (P : Program) (ρ : Emb) : Value → Value → Prop
  | bool (b : Bool) : VR P ρ (.bool b) (.bool b)
  | int (k : IntKind) (n : Int) : VR P ρ (.int k n) (.int k n)
  | float (k : FloatKind) (b : Nat) : VR P ρ (.float k b) (.float k b)
  | complex (k : FloatKind) (a b : Nat) : VR P ρ (.complex k a b) (.complex k a b)
  | string (s : ByteArray) : VR P ρ (.string s) (.string s)
  | nilp : VR P ρ (.pointer none) (.pointer none)
  | ptr {i o : Nat} {f : Inf} (h : ρ i = some f) : VR P ρ (.pointer (some ⟨i, o, none⟩)) (.pointer (some ⟨f.blk, f.shift + o, none⟩))
  | nils : VR P ρ (.slice none 0 0) (.slice none 0 0)
  | slice {i o n c c' p : Nat} {sp : Option Nat} {f : Inf} (h : ρ i = some f) (hn : n ≤ c') (hc : c = c' ∨ c = unk) (hp : 0 < n ∨ (c ≠ unk ∧ 0 < c) → p = f.shift + o) (hr : p + c' * P.cellsOf f.elem ≤ f.room) (hs : 0 < c' → sp = none) :
      VR P ρ (.slice (some ⟨i, o, none⟩) n c) (.slice (some ⟨f.blk, p, sp⟩) n c')
  | nilm : VR P ρ (.map none) (.map none)
  | mapr {i : Nat} {f : Inf} (h : ρ i = some f) : VR P ρ (.map (some i)) (.map (some f.blk))
  | nilc : VR P ρ (.chan none) (.chan none)
  | nilf : VR P ρ .nilFunc .nilFunc
  | func (fn : Fn) {xs ys xs' ys' : Array Value} (hx : xs.size = xs'.size) (hy : ys.size = ys'.size) (h : ∀ (i : Nat) (v v' : Value), xs[i]? = some v → xs'[i]? = some v' → VR P ρ v v')
      (h' : ∀ (i : Nat) (v v' : Value), ys[i]? = some v → ys'[i]? = some v' → VR P ρ v v') : VR P ρ (.func fn xs ys) (.func fn xs' ys')
  | iface (t : TypeId) {v v' : Value} (h : VR P ρ v v') : VR P ρ (.iface t v) (.iface t v')
  | nili : VR P ρ .nilIface .nilIface
  | agg {xs xs' : Array Value} (hx : xs.size = xs'.size) (h : ∀ (i : Nat) (v v' : Value), xs[i]? = some v → xs'[i]? = some v' → VR P ρ v v') : VR P ρ (.agg xs) (.agg xs')
  | tuple {xs xs' : Array Value} (hx : xs.size = xs'.size) (h : ∀ (i : Nat) (v v' : Value), xs[i]? = some v → xs'[i]? = some v' → VR P ρ v v') : VR P ρ (.tuple xs) (.tuple xs')

def Sub (ρ ρ' : Emb) : Prop := ∀ i f, ρ i = some f → ρ' i = some f
theorem Sub.refl (ρ : Emb) : Sub ρ ρ := fun _ _ h => h
theorem Sub.trans {a b c : Emb} (h : Sub a b) (h' : Sub b c) : Sub a c := fun i f hf => h' i f (h i f hf)

theorem VR.mono {P : Program} {ρ ρ' : Emb} {v v' : Value} (h : VR P ρ v v') (hs : Sub ρ ρ') : VR P ρ' v v' := by
  induction h with
  | bool b => exact .bool b
  | int k n => exact .int k n
  | float k n => exact .float k n
  | complex k a b => exact .complex k a b
  | string s => exact .string s
  | nilp => exact .nilp
  | ptr h => exact .ptr (hs _ _ h)
  | nils => exact .nils
  | slice h hn hc hp hr hsp => exact .slice (hs _ _ h) hn hc hp hr hsp
  | nilm => exact .nilm
  | mapr h => exact .mapr (hs _ _ h)
  | nilc => exact .nilc
  | nilf => exact .nilf
  | func fn hx hy _ _ ih ih' => exact .func fn hx hy ih ih'
  | iface t _ ih => exact .iface t ih
  | nili => exact .nili
  | agg hx _ ih => exact .agg hx ih
  | tuple hx _ ih => exact .tuple hx ih

/-- two rows of values, place by place -/
def VRs (P : Program) (ρ : Emb) (xs xs' : Array Value) : Prop := xs.size = xs'.size ∧ ∀ (i : Nat) (v v' : Value), xs[i]? = some v → xs'[i]? = some v' → VR P ρ v v'
theorem VRs.mono {P : Program} {ρ ρ' : Emb} {v v' : Array Value} (h : VRs P ρ v v') (hs : Sub ρ ρ') : VRs P ρ' v v' :=
  ⟨h.1, fun i a b ha hb => (h.2 i a b ha hb).mono hs⟩

theorem VR.undef (P : Program) (ρ : Emb) : VR P ρ undef undef := .tuple rfl (by simp)

/-- which of the world's blocks may be written -/
def Wr (ρ : Emb) (m : Mm) (B : Nat) : Prop := ∃ i b f, m i = some b ∧ b.rw = true ∧ ρ i = some f ∧ f.blk = B

/-- blocks that are no rows of cells: what a map holds, how far an iterator is -/
def mapTag : Nat := 4611686018427387904
def isObj (e : TypeId) : Bool := Nat.ble mapTag e
/-- a package's variable (globTag + its number), of which is known that it holds some int -/
def globTag : Nat := 9223372036854775808
theorem noglob {e : TypeId} (h : isObj e = false) {B : Nat} : ∀ g, e = globTag + g → B = g := fun g he => by
  subst he
  exact absurd (Nat.ble_eq_true_of_le (show mapTag ≤ globTag + g from Nat.le_trans (by decide) (Nat.le_add_right _ _))) (by rw [show Nat.ble mapTag (globTag + g) = false from h]; decide)
/-- a map's entries, a cell for each: key, value, when it was put in -/
inductive EntR (P : Program) (ρ : Emb) : List Value → List MapEntry → Prop
  | nil : EntR P ρ [] []
  | cons {k v : Value} {e : MapEntry} {cs : List Value} {es : List MapEntry} (hk : VR P ρ k e.key) (hv : VR P ρ v e.val) (h : EntR P ρ cs es) : EntR P ρ (.tuple ⟨[k, v, .int .i64 (e.born : Nat)]⟩ :: cs) (e :: es)
theorem EntR.mono {P : Program} {ρ ρ' : Emb} {cs : List Value} {es : List MapEntry} (h : EntR P ρ cs es) (hs : Sub ρ ρ') : EntR P ρ' cs es := by
  induction h with
  | nil => exact .nil
  | cons hk hv _ ih => exact .cons (hk.mono hs) (hv.mono hs) ih
/-- the stamps that an iterator has met -/
def seenC (l : List Nat) : List Value := l.map fun (n : Nat) => Value.int .i64 (n : Int)
inductive ObjR (P : Program) (ρ : Emb) : List Value → TypeId → Obj → Prop
  | map {c : Nat} {cs : List Value} {es : Array MapEntry} (h : EntR P ρ cs es.toList) : ObjR P ρ (.int .i64 c :: cs) mapTag (.map es c)
  | iter {i : Nat} {f : Inf} {since stepped : Nat} {seen : List Nat} (h : ρ i = some f) : ObjR P ρ (.map (some i) :: .int .i64 since :: .int .i64 stepped :: seenC seen) (mapTag + 1) (.mapIter (some f.blk) since seen.toArray stepped)
  | glob {g : Nat} {n : Int} {cs : Array Value} {el : TypeId} {fz : Nat × Nat} (h : cs[0]? = some (.int .i64 n)) : ObjR P ρ [] (globTag + g) (.cells cs el fz)
theorem ObjR.mono {P : Program} {ρ ρ' : Emb} {cs : List Value} {e : TypeId} {o : Obj} (h : ObjR P ρ cs e o) (hs : Sub ρ ρ') : ObjR P ρ' cs e o := by
  cases h with
  | map h => exact .map (h.mono hs)
  | iter h => exact .iter (hs _ _ h)
  | glob h => exact .glob h

structure One (P : Program) (ρ : Emb) (w : World) (f : Inf) (b : Blk) : Prop where
  elem : f.elem = b.elem
  row : (isObj b.elem = false ∧ f.shift + b.cells.length ≤ f.room ∧ ∃ cs el fz, w.heap[f.blk]? = some (.cells cs el fz) ∧ cs.size = f.room ∧ (b.rw = true → el = f.elem ∧ (fz = (0, 0) ∨ fz = (cs.size, cs.size + 1))) ∧
    ∀ o v, b.cells[o]? = some v → ∃ v', cs[f.shift + o]? = some v' ∧ VR P ρ v v') ∨
    (isObj b.elem = true ∧ f.shift = 0 ∧ ∃ o, w.heap[f.blk]? = some o ∧ ObjR P ρ b.cells b.elem o)
  glob : ∀ g, b.elem = globTag + g → f.blk = g

/-- the world bears the memory -/
structure HR (P : Program) (ρ : Emb) (m : Mm) (w : World) : Prop where
  one : ∀ i b, m i = some b → ∃ f, ρ i = some f ∧ One P ρ w f b
  apart : ∀ i j bi bj fi fj, i ≠ j → m i = some bi → m j = some bj → bi.rw = true → ρ i = some fi → ρ j = some fj → fi.blk ≠ fj.blk

/-- numbers from n on are free -/
def Free (ρ : Emb) (n : Nat) : Prop := ∀ i, n ≤ i → ρ i = none

/-- the streams are as they were -/
def Io (w w' : World) : Prop := w'.os = w.os ∧ w'.tape = w.tape ∧ w'.output = w.output
theorem Io.refl (w : World) : Io w w := ⟨rfl, rfl, rfl⟩
theorem Io.trans {a b c : World} (h : Io a b) (h' : Io b c) : Io a c := ⟨h'.1.trans h.1, h'.2.1.trans h.2.1, h'.2.2.trans h.2.2⟩
theorem Io.freeze (w : World) (a : Addr) (n : Nat) : Io w (w.freeze a n) := by unfold World.freeze; split <;> exact ⟨rfl, rfl, rfl⟩
/-- what may have become of the world, of the numbers and of the memory -/
structure Ext (ρ : Emb) (m : Mm) (w : World) (ρ' : Emb) (m' : Mm) (w' : World) : Prop where
  sub : Sub ρ ρ'
  size : w.heap.size ≤ w'.heap.size
  heap : ∀ B, B < w.heap.size → ¬ Wr ρ m B → w'.heap[B]? = w.heap[B]?
  new : ∀ i f, ρ i = none → ρ' i = some f → w.heap.size ≤ f.blk ∨ Wr ρ m f.blk
  ids : ∀ i b', m' i = some b' → (∃ b, m i = some b ∧ (b'.rw = true → b.rw = true)) ∨ ρ i = none
  io : Io w w'

theorem Ext.refl (ρ : Emb) (m : Mm) (w : World) : Ext ρ m w ρ m w :=
  ⟨Sub.refl ρ, Nat.le_refl _, fun _ _ _ => rfl, fun i f h h' => (by rw [h] at h'; cases h'), fun i b' h => .inl ⟨b', h, id⟩, Io.refl w⟩

theorem Ext.wr {ρ ρ' : Emb} {m m' : Mm} {w w' : World} (h : Ext ρ m w ρ' m' w') {P : Program} (hr : HR P ρ m w) {B : Nat} (hb : Wr ρ' m' B) : w.heap.size ≤ B ∨ Wr ρ m B := by
  obtain ⟨i, b', f, hi, hrw, hf, rfl⟩ := hb
  rcases h.ids i b' hi with ⟨b, hb, hk⟩ | hn
  · obtain ⟨f₀, hf₀, _⟩ := hr.one i b hb
    have := h.sub i f₀ hf₀
    rw [hf] at this
    cases this
    exact .inr ⟨i, b, f, hb, hk hrw, hf₀, rfl⟩
  · exact h.new i f hn hf

theorem Ext.trans {P : Program} {ρ ρ₁ ρ₂ : Emb} {m m₁ m₂ : Mm} {w w₁ w₂ : World} (hr : HR P ρ m w) (h : Ext ρ m w ρ₁ m₁ w₁) (h' : Ext ρ₁ m₁ w₁ ρ₂ m₂ w₂) :
    Ext ρ m w ρ₂ m₂ w₂ where
  sub := h.sub.trans h'.sub
  size := Nat.le_trans h.size h'.size
  heap := fun B hB hw => by
    rw [h'.heap B (Nat.lt_of_lt_of_le hB h.size) fun hw' => (h.wr hr hw').elim (fun hl => by omega) hw, h.heap B hB hw]
  new := fun i f hi hf => by
    cases h1 : ρ₁ i with
    | some f₁ =>
      have := h'.sub i f₁ h1
      rw [hf] at this
      cases this
      exact h.new i f hi h1
    | none =>
      rcases h'.new i f h1 hf with hl | hw
      · exact .inl (Nat.le_trans h.size hl)
      · exact h.wr hr hw
  ids := fun i b' hi => by
    rcases h'.ids i b' hi with ⟨b, hb, hk⟩ | hn
    · rcases h.ids i b hb with ⟨b₀, hb₀, hk₀⟩ | hn
      · exact .inl ⟨b₀, hb₀, fun x => hk₀ (hk x)⟩
      · exact .inr hn
    · refine .inr ?_
      cases h0 : ρ i with
      | none => rfl
      | some f => rw [h.sub i f h0] at hn; cases hn
  io := h.io.trans h'.io

theorem One.mono {P : Program} {ρ ρ' : Emb} {w w' : World} {f : Inf} {b : Blk} (h : One P ρ w f b) (hs : Sub ρ ρ') (hw : w'.heap[f.blk]? = w.heap[f.blk]?) : One P ρ' w' f b where
  elem := h.elem
  glob := h.glob
  row := by
    rcases h.row with ⟨ho, hr, cs, el, fz, h1, h2, h3, h4⟩ | ⟨ho, hz, o, h1, h2⟩
    · exact .inl ⟨ho, hr, cs, el, fz, hw.trans h1, h2, h3, fun o v hv => let ⟨v', a, b⟩ := h4 o v hv; ⟨v', a, b.mono hs⟩⟩
    · exact .inr ⟨ho, hz, o, hw.trans h1, h2.mono hs⟩

theorem One.cellsOf {P : Program} {ρ : Emb} {w : World} {f : Inf} {b : Blk} (h : One P ρ w f b) (ho : isObj b.elem = false) : f.shift + b.cells.length ≤ f.room ∧ ∃ cs el fz, w.heap[f.blk]? = some (.cells cs el fz) ∧ cs.size = f.room ∧ (b.rw = true → el = f.elem ∧ (fz = (0, 0) ∨ fz = (cs.size, cs.size + 1))) ∧
    ∀ o v, b.cells[o]? = some v → ∃ v', cs[f.shift + o]? = some v' ∧ VR P ρ v v' := by
  rcases h.row with ⟨_, h⟩ | ⟨h1, _⟩
  · exact h
  · rw [ho] at h1; cases h1
/-- a block that may be written is of its rows' type -/
theorem One.own {P : Program} {ρ : Emb} {w : World} {f : Inf} {b : Blk} (h : One P ρ w f b) (ho : isObj b.elem = false) (hrw : b.rw = true) : ∃ cs fz, w.heap[f.blk]? = some (.cells cs f.elem fz) ∧ cs.size = f.room ∧ (b.rw = true → fz = (0, 0) ∨ fz = (cs.size, cs.size + 1)) ∧
    ∀ o v, b.cells[o]? = some v → ∃ v', cs[f.shift + o]? = some v' ∧ VR P ρ v v' := by
  obtain ⟨_, cs, el, fz, h1, h2, h3, h4⟩ := h.cellsOf ho
  obtain ⟨rfl, h5⟩ := h3 hrw
  exact ⟨cs, fz, h1, h2, fun _ => h5, h4⟩
theorem One.lt {P : Program} {ρ : Emb} {w : World} {f : Inf} {b : Blk} (h : One P ρ w f b) : f.blk < w.heap.size := by
  rcases h.row with ⟨_, _, cs, el, fz, h1, _⟩ | ⟨_, _, o, h1, _⟩
  · exact (Array.getElem?_eq_some_iff.1 h1).1
  · exact (Array.getElem?_eq_some_iff.1 h1).1
/-- a memory without what is no row of cells -/
def rowsOf (m : Mm) : Mm := fun i => match m i with
  | some b => bif isObj b.elem then none else some b
  | none => none
theorem rowsOf_some {m : Mm} {i : Nat} {b : Blk} (h : rowsOf m i = some b) : m i = some b ∧ isObj b.elem = false := by
  unfold rowsOf at h
  cases hm : m i with
  | none => rw [hm] at h; cases h
  | some c =>
    rw [hm] at h
    cases ho : isObj c.elem with
    | true => simp [ho] at h
    | false => simp only [ho, cond_false, Option.some.injEq] at h; subst h; exact ⟨rfl, ho⟩

/-- a memory within another one -/
def Within (m n : Mm) : Prop := ∀ i b, m i = some b → n i = some b
/-- what became of a memory, beside what stayed apart from it -/
def join (m m' n : Mm) : Mm := fun i => match m i, n i with | none, some b => some b | _, _ => m' i

theorem HR.within {P : Program} {ρ : Emb} {m n : Mm} {w : World} (h : HR P ρ n w) (hs : Within m n) : HR P ρ m w :=
  ⟨fun i b hi => h.one i b (hs i b hi), fun i j bi bj fi fj hij hi hj => h.apart i j bi bj fi fj hij (hs i bi hi) (hs j bj hj)⟩

theorem join_some {m m' n : Mm} {i : Nat} {b : Blk} (h : join m m' n i = some b) : (m i = none ∧ n i = some b) ∨ (m' i = some b ∧ (m i ≠ none ∨ n i = none)) := by
  unfold join at h
  cases hm : m i with
  | none =>
    cases hn : n i with
    | none => simp [hm, hn] at h; exact .inr ⟨h, .inr rfl⟩
    | some c => simp [hm, hn] at h; exact .inl ⟨rfl, by rw [h]⟩
  | some c => simp [hm] at h; exact .inr ⟨h, .inl (by simp)⟩

/-- THE FRAME: what was done with a part of the memory, beside the rest -/
theorem frame {P : Program} {ρ ρ' : Emb} {m m' n : Mm} {w w' : World} (hn : HR P ρ n w) (hs : Within m n) (he : Ext ρ m w ρ' m' w') (hr : HR P ρ' m' w') :
    HR P ρ' (join m m' n) w' ∧ Ext ρ n w ρ' (join m m' n) w' := by
  have hm := hn.within hs
  have key : ∀ k bk fk, m k = none → n k = some bk → ρ k = some fk → ¬ Wr ρ m fk.blk := by
    rintro k bk fk hk hnk hfk ⟨i, b, f, hi, hrw, hf, he⟩
    exact hn.apart i k b bk f fk (by rintro rfl; rw [hk] at hi; cases hi) (hs i b hi) hnk hrw hf hfk he
  have newapart : ∀ j f' k bk fk, ρ' j = some f' → (∃ b', m' j = some b') → m k = none → n k = some bk → ρ k = some fk → fk.blk < w.heap.size → (m j ≠ none ∨ n j = none) → j ≠ k →
      (∀ b', m' j = some b' → bk.rw = true ∨ b'.rw = true) → f'.blk ≠ fk.blk := by
    rintro j f' k bk fk hf' ⟨b', hb'⟩ hk hnk hfk hlt hjn hjk hrw heq
    rcases he.ids j b' hb' with ⟨b, hb, hkp⟩ | hnone
    · obtain ⟨f₀, hf₀, _⟩ := hm.one j b hb
      have := he.sub j f₀ hf₀
      rw [hf'] at this
      cases this
      rcases hrw b' hb' with h | h
      · exact hn.apart k j bk b fk f' (Ne.symm hjk) hnk (hs j b hb) h hfk hf₀ heq.symm
      · exact hn.apart j k b bk f' fk hjk (hs j b hb) hnk (hkp h) hf₀ hfk heq
    · rcases he.new j f' hnone hf' with h | h
      · omega
      · rw [heq] at h; exact key k bk fk hk hnk hfk h
  refine ⟨⟨?_, ?_⟩, ?_⟩
  · intro i b hi
    rcases join_some hi with ⟨hk, hnk⟩ | ⟨hb, _⟩
    · obtain ⟨f, hf, ho⟩ := hn.one i b hnk
      exact ⟨f, he.sub i f hf, ho.mono he.sub (he.heap f.blk ho.lt (key i b f hk hnk hf))⟩
    · exact hr.one i b hb
  · intro i j bi bj fi fj hij hi hj hrw hfi hfj
    rcases join_some hi with ⟨hki, hni⟩ | ⟨hbi, hci⟩
    · obtain ⟨f, hf, ho⟩ := hn.one i bi hni
      have h1 := he.sub i f hf
      rw [hfi] at h1; cases h1
      rcases join_some hj with ⟨hkj, hnj⟩ | ⟨hbj, hcj⟩
      · obtain ⟨f2, hf2, ho2⟩ := hn.one j bj hnj
        have h2 := he.sub j f2 hf2
        rw [hfj] at h2; cases h2
        exact hn.apart i j bi bj fi fj hij hni hnj hrw hf hf2
      · exact (newapart j fj i bi fi hfj ⟨bj, hbj⟩ hki hni hf ho.lt hcj (Ne.symm hij) (fun _ _ => .inl hrw)).symm
    · rcases join_some hj with ⟨hkj, hnj⟩ | ⟨hbj, hcj⟩
      · obtain ⟨f2, hf2, ho2⟩ := hn.one j bj hnj
        have h2 := he.sub j f2 hf2
        rw [hfj] at h2; cases h2
        refine newapart i fi j bj fj hfi ⟨bi, hbi⟩ hkj hnj hf2 ho2.lt hci hij (fun b' hb' => .inr ?_)
        rw [hbi] at hb'; cases hb'; exact hrw
      · exact hr.apart i j bi bj fi fj hij hbi hbj hrw hfi hfj
  · refine ⟨he.sub, he.size, fun B hB hw => he.heap B hB fun ⟨i, b, f, hi, h⟩ => hw ⟨i, b, f, hs i b hi, h⟩, fun i f hi hf => ?_, fun i b' hi => ?_, he.io⟩
    · exact (he.new i f hi hf).imp id fun ⟨j, b, g, hj, h⟩ => ⟨j, b, g, hs j b hj, h⟩
    · rcases join_some hi with ⟨hk, hnk⟩ | ⟨hb, hc⟩
      · exact .inl ⟨b', hnk, id⟩
      · exact (he.ids i b' hb).imp (fun ⟨b, hb, hk⟩ => ⟨b, hs i b hb, hk⟩) id
end Go.Proofs.YtopblipficpilaaGreatDoor.AY

/- The layer, second part: memories as tries, environments, runs of code, calls; the rules for code. -/
namespace Go.Proofs.YtopblipficpilaaGreatDoor.AY
open Go
set_option linter.unusedVariables false
set_option linter.unusedSimpArgs false

inductive Tri where
  | nil
  | node (l : Tri) (v : Option Blk) (r : Tri)

def Tri.get : Tri → Nat → Option Blk
  | .nil, _ => none
  | .node l v r, k => bif Nat.beq k 0 then v else bif Nat.beq (k % 2) 1 then l.get (k / 2) else r.get (k / 2 - 1)

def Tri.set : Nat → Tri → Nat → Option Blk → Tri
  | 0, t, _, _ => t
  | f + 1, .nil, k, b => bif Nat.beq k 0 then .node .nil b .nil else bif Nat.beq (k % 2) 1 then .node (Tri.set f .nil (k / 2) b) none .nil else .node .nil none (Tri.set f .nil (k / 2 - 1) b)
  | f + 1, .node l v r, k, b => bif Nat.beq k 0 then .node l b r else bif Nat.beq (k % 2) 1 then .node (Tri.set f l (k / 2) b) v r else .node l v (Tri.set f r (k / 2 - 1) b)

theorem beq_iff (a b : Nat) : Nat.beq a b = decide (a = b) := by
  by_cases h : a = b
  · simp [h]
  · cases hh : Nat.beq a b with
    | false => simp [h]
    | true => exact absurd (Nat.eq_of_beq_eq_true hh) h

theorem Tri.get_set : ∀ (f : Nat) (t : Tri) (k j : Nat) (b : Option Blk), k < f → (Tri.set f t k b).get j = if j = k then b else t.get j := by
  intro f
  induction f with
  | zero => intro t k j b h; omega
  | succ f ih =>
    intro t k j b h
    have hk2 : k ≠ 0 → k / 2 < f := fun h0 => by omega
    have hk3 : k ≠ 0 → k / 2 - 1 < f := fun h0 => by omega
    cases t with
    | nil =>
      simp only [Tri.set, beq_iff, Bool.cond_decide]
      by_cases h0 : k = 0
      · simp only [h0, if_true, Tri.get, beq_iff, Bool.cond_decide]
        by_cases hj : j = 0 <;> simp [hj]
      · simp only [h0, if_false]
        by_cases h1 : k % 2 = 1
        · simp only [h1, if_true, Tri.get, beq_iff, Bool.cond_decide]
          by_cases hj : j = 0
          · simp [hj, Ne.symm h0]
          · by_cases hj1 : j % 2 = 1
            · simp only [hj, hj1, if_false, if_true]
              rw [ih _ _ _ _ (hk2 h0)]
              have : (j / 2 = k / 2) ↔ j = k := by omega
              simp [this, Tri.get]
            · have : j ≠ k := by rintro rfl; exact hj1 h1
              simp [hj, hj1, this]
        · simp only [h1, if_false, Tri.get, beq_iff, Bool.cond_decide]
          by_cases hj : j = 0
          · simp [hj, Ne.symm h0]
          · by_cases hj1 : j % 2 = 1
            · have : j ≠ k := by rintro rfl; exact h1 hj1
              simp [hj, hj1, this]
            · simp only [hj, hj1, if_false]
              rw [ih _ _ _ _ (hk3 h0)]
              have : (j / 2 - 1 = k / 2 - 1) ↔ j = k := by omega
              simp [this, Tri.get]
    | node l v r =>
      simp only [Tri.set, beq_iff, Bool.cond_decide]
      by_cases h0 : k = 0
      · simp only [h0, if_true, Tri.get, beq_iff, Bool.cond_decide]
        by_cases hj : j = 0 <;> simp [hj]
      · simp only [h0, if_false]
        by_cases h1 : k % 2 = 1
        · simp only [h1, if_true, Tri.get, beq_iff, Bool.cond_decide]
          by_cases hj : j = 0
          · simp [hj, Ne.symm h0]
          · by_cases hj1 : j % 2 = 1
            · simp only [hj, hj1, if_false, if_true]
              rw [ih _ _ _ _ (hk2 h0)]
              have : (j / 2 = k / 2) ↔ j = k := by omega
              simp [this]
            · have : j ≠ k := by rintro rfl; exact hj1 h1
              simp [hj, hj1, this]
        · simp only [h1, if_false, Tri.get, beq_iff, Bool.cond_decide]
          by_cases hj : j = 0
          · simp [hj, Ne.symm h0]
          · by_cases hj1 : j % 2 = 1
            · have : j ≠ k := by rintro rfl; exact h1 hj1
              simp [hj, hj1, this]
            · simp only [hj, hj1, if_false]
              rw [ih _ _ _ _ (hk3 h0)]
              have : (j / 2 - 1 = k / 2 - 1) ↔ j = k := by omega
              simp [this]

structure Mem where
  next : Nat
  tri : Tri

def Mem.get (M : Mem) : Mm := fun i => M.tri.get i
/-- the list, brought to its form first (for a machine that puts things off) -/
def forceL {α : Type} : List Value → (List Value → α) → α
  | [], k => k []
  | v :: l, k => forceL l fun l' => k (v :: l')
theorem forceL_eq {α : Type} : ∀ (l : List Value) (k : List Value → α), forceL l k = k l
  | [], _ => rfl
  | v :: l, k => by rw [forceL, forceL_eq l]
def Mem.put (M : Mem) (i : Nat) (b : Blk) : Mem := forceL b.cells fun cs => { M with tri := M.tri.set (i + 1) i (some { b with cells := cs }) }
theorem Mem.put_eq (M : Mem) (i : Nat) (b : Blk) : M.put i b = { M with tri := M.tri.set (i + 1) i (some b) } := forceL_eq _ _
def Mem.del (M : Mem) (i : Nat) : Mem := { M with tri := M.tri.set (i + 1) i none }
def Mem.bump (M : Mem) (k : Nat) : Mem := { M with next := M.next + k }

theorem Mem.get_put (M : Mem) (i j : Nat) (b : Blk) : (M.put i b).get j = if j = i then some b else M.get j := by rw [Mem.put_eq]; exact Tri.get_set _ _ _ _ _ (Nat.lt_succ_self i)
theorem Mem.get_del (M : Mem) (i j : Nat) : (M.del i).get j = if j = i then none else M.get j := Tri.get_set _ _ _ _ _ (Nat.lt_succ_self i)
theorem Mem.get_bump (M : Mem) (k j : Nat) : (M.bump k).get j = M.get j := rfl
theorem Mem.next_put (M : Mem) (i : Nat) (b : Blk) : (M.put i b).next = M.next := by rw [Mem.put_eq]
theorem Mem.next_del (M : Mem) (i : Nat) : (M.del i).next = M.next := rfl
theorem Mem.next_bump (M : Mem) (k : Nat) : (M.bump k).next = M.next + k := rfl

/-- what the temporaries are known to hold -/
abbrev Env := List (Nat × Value)
def Env.get : Env → Nat → Option Value
  | [], _ => none
  | (s, v) :: e, t => bif Nat.beq s t then some v else Env.get e t
def Env.del : Env → Nat → Env
  | [], _ => []
  | (s, v) :: e, t => bif Nat.beq s t then Env.del e t else (s, v) :: Env.del e t
def Env.set (e : Env) (t : Nat) (v : Value) : Env := (t, v) :: Env.del e t
def Env.put (e : Env) (t : Option Nat) (v : Value) : Env := match t with | some t => e.set t v | none => e
/-- only what these temporaries hold -/
def Env.keep (e : Env) : List Nat → Env
  | [] => []
  | t :: l => match e.get t with | some v => (t, v) :: Env.keep e l | none => Env.keep e l

theorem Env.get_del (e : Env) (t s : Nat) : (e.del t).get s = if s = t then none else e.get s := by
  induction e with
  | nil => simp [Env.del, Env.get]
  | cons x e ih =>
    obtain ⟨u, v⟩ := x
    simp only [Env.del, Env.get, beq_iff, Bool.cond_decide]
    by_cases h : u = t
    · simp only [h, if_true, ih]
      by_cases hs : s = t
      · simp [hs]
      · simp [hs, Ne.symm hs]
    · simp only [h, if_false, Env.get, beq_iff, Bool.cond_decide, ih]
      by_cases hs : u = s
      · have : s ≠ t := by rintro rfl; exact h hs
        simp [hs, this]
      · simp [hs]
theorem Env.get_set (e : Env) (t s : Nat) (v : Value) : (e.set t v).get s = if s = t then some v else e.get s := by
  simp only [Env.set, Env.get, beq_iff, Bool.cond_decide, Env.get_del]
  by_cases h : s = t
  · simp [h]
  · simp [h, Ne.symm h]
theorem Env.get_put (e : Env) (t : Option Nat) (s : Nat) (v : Value) : (e.put t v).get s = if t = some s then some v else e.get s := by
  cases t with
  | none => simp [Env.put]
  | some t =>
    simp only [Env.put, Env.get_set, Option.some.injEq]
    by_cases h : s = t
    · simp [h]
    · simp [h, Ne.symm h]
theorem Env.get_keep (e : Env) (l : List Nat) (s : Nat) (v : Value) (h : (e.keep l).get s = some v) : e.get s = some v := by
  induction l with
  | nil => simp [Env.keep, Env.get] at h
  | cons t l ih =>
    unfold Env.keep at h
    cases ht : e.get t with
    | none => rw [ht] at h; exact ih h
    | some u =>
      rw [ht] at h
      simp only [Env.get, beq_iff, Bool.cond_decide] at h
      by_cases hts : t = s
      · simp only [hts, if_true] at h; subst hts; rw [ht]; exact h
      · simp only [hts, if_false] at h; exact ih h

/-- a deferred call of the frame's: of a function with what it has captured; the mark of a range over a function -/
inductive Dfr where
  | fn (f : FuncId) (cap : Array Value)
  | coll

structure St where
  env : Env
  mem : Mem
  dfr : List Dfr

/-- the fence that lets everything in, for code in a round or in no round -/
def Fw (r : Option Nat) : Fence := { Fence.wide with round := r }
theorem calls_Fw {P : Program} {r : Option Nat} {n : Nat} {f : FuncId} {args : Array Value} {w : World} {R : Ending → World → Prop} (h : Calls P f args w R) : CallsIn (Fw r) n P f args w R :=
  (callsIn_wide (n := n)).2 h
/-- an operation that defers nothing does the same in a round -/
theorem opIn_of_wp {P : Program} {o : Oper} {a : Act} {w : World} {K : Act → World → Prop} {Q : Exit → Act → World → Prop} (r : Option Nat) (hd : ∀ c, o.op ≠ .defer c) (h : o.wp P a w K Q) : o.wpIn (Fw r) 0 P a w K Q := by
  refine ⟨fun _ _ => trivial, ?_⟩
  rw [show (Fw r).round = r from rfl, Oper.semAt_eq _ _ _ hd]
  unfold Oper.wp at h
  generalize (execOp a.eval o).run P w = x at *
  have hdep : (Fw r).depth.isSome = true → 1 ≤ 0 := fun h => by cases h
  cases x with
  | ok x w' =>
    cases x with
    | enter f args => exact ⟨hdep, calls_Fw h⟩
    | round l f tmps assign body => exact h.elim
    | row row args => exact ⟨hdep, fun c cs _ => let ⟨v, w', q, s⟩ := h c cs; ⟨v, w', q, stepsIn_wide.2 s⟩⟩
    | _ => exact h
  | halt x w' => cases x <;> exact h
theorem nodefer_of_wp {P : Program} {o : Oper} {a : Act} {w : World} (h : o.wp P a w (fun a' _ => a'.defers = a.defers) (fun _ _ _ => False)) : ∀ c, o.op ≠ .defer c := by
  intro c hc
  unfold Oper.wp at h
  unfold execOp at h
  rw [hc] at h
  simp only [Sem.run_bind] at h
  generalize hx : (resolve a.eval c o.type).run P w = x at h
  cases x with
  | ok d w' =>
    have h2 : (a.put o.dst undef).defers = a.defers := by cases o.dst <;> rfl
    have h3 : ({ a with defers := d :: a.defers }.put o.dst undef).defers = a.defers := h
    have h4 : ({ a with defers := d :: a.defers }.put o.dst undef).defers = d :: a.defers := by cases o.dst <;> rfl
    rw [h4] at h3
    have := congrArg List.length h3
    simp at this
  | halt x w' => cases x <;> exact h
/-- a deferred call of the machine's; what lay when the frame began lies below n₀ -/
def DR (P : Program) (n₀ : Nat) (ρ : Emb) (m : Mm) (w : World) : Dfr → Deferred → Prop
  | .fn f cap, d => ∃ cap', d = { target := .fn (.func f) cap', args := #[] } ∧ VRs P ρ cap cap'
  | .coll, d => ∃ D, d = { target := .collected D, args := #[] } ∧ n₀ ≤ D ∧ w.heap[D]? = some (.deferred (some [])) ∧ ∀ i b f, m i = some b → ρ i = some f → f.blk ≠ D
def DRs (P : Program) (n₀ : Nat) (ρ : Emb) (m : Mm) (w : World) : List Dfr → List Deferred → Prop
  | [], [] => True
  | x :: l, d :: ds => DR P n₀ ρ m w x d ∧ DRs P n₀ ρ m w l ds
  | _, _ => False
theorem DR.ext {P : Program} {n₀ : Nat} {ρ ρ' : Emb} {m m' : Mm} {w w' : World} {x : Dfr} {d : Deferred} (hr : HR P ρ m w) (he : Ext ρ m w ρ' m' w') (h : DR P n₀ ρ m w x d) : DR P n₀ ρ' m' w' x d := by
  cases x with
  | fn f cap => obtain ⟨cap', h1, h2⟩ := h; exact ⟨cap', h1, h2.mono he.sub⟩
  | coll =>
    obtain ⟨D, h1, hn, h2, h3⟩ := h
    have hlt : D < w.heap.size := (Array.getElem?_eq_some_iff.1 h2).1
    refine ⟨D, h1, hn, (he.heap D hlt fun ⟨i, b, f, hi, _, hf, hB⟩ => h3 i b f hi hf hB).trans h2, fun i b' f hi hf => ?_⟩
    rcases he.ids i b' hi with ⟨b, hb, _⟩ | hn0
    · obtain ⟨g, hg, _⟩ := hr.one i b hb
      have := he.sub i g hg
      rw [hf] at this; cases this
      exact h3 i b f hb hg
    · rcases he.new i f hn0 hf with h4 | ⟨j, b, g, hj, _, hg, hB⟩
      · omega
      · rw [← hB]; exact h3 j b g hj hg
theorem DRs.ext {P : Program} {n₀ : Nat} {ρ ρ' : Emb} {m m' : Mm} {w w' : World} (hr : HR P ρ m w) (he : Ext ρ m w ρ' m' w') : ∀ {l : List Dfr} {ds : List Deferred}, DRs P n₀ ρ m w l ds → DRs P n₀ ρ' m' w' l ds
  | [], [], _ => trivial
  | _ :: _, _ :: _, h => ⟨h.1.ext hr he, DRs.ext hr he h.2⟩
  | [], _ :: _, h => h.elim
  | _ :: _, [], h => h.elim

def ER (P : Program) (ρ : Emb) (e : Env) (tmps : Array Value) : Prop := ∀ t v, e.get t = some v → ∃ v', tmps[t]? = some v' ∧ VR P ρ v v'
theorem ER.mono {P : Program} {ρ ρ' : Emb} {e : Env} {tm : Array Value} (h : ER P ρ e tm) (hs : Sub ρ ρ') : ER P ρ' e tm :=
  fun t v ht => let ⟨v', a, b⟩ := h t v ht; ⟨v', a, b.mono hs⟩
theorem ER.less {P : Program} {ρ : Emb} {e e' : Env} {tm : Array Value} (h : ER P ρ e tm) (hs : ∀ t v, e'.get t = some v → e.get t = some v) : ER P ρ e' tm :=
  fun t v ht => h t v (hs t v ht)
theorem ER.put {P : Program} {ρ : Emb} {e : Env} {a : Act} (h : ER P ρ e a.tmps) {d : Option Nat} {v v' : Value} (hd : ∀ t, d = some t → t < a.tmps.size) (hv : VR P ρ v v') :
    ER P ρ (e.put d v) (a.put d v').tmps := by
  intro t u ht
  rw [Env.get_put] at ht
  cases d with
  | none => simp at ht; exact h t u ht
  | some d =>
    have hlt := hd d rfl
    simp only [Option.some.injEq] at ht
    by_cases hdt : d = t
    · subst hdt
      simp only [if_true, Option.some.injEq] at ht; subst ht
      exact ⟨v', by simp [Act.put, hlt], hv⟩
    · simp only [hdt, if_false] at ht
      obtain ⟨u', h1, h2⟩ := h t u ht
      exact ⟨u', by simp [Act.put, Array.getElem?_setIfInBounds_ne hdt, h1], h2⟩

/-- the frame and the world bear the environment and the memory; its deferred calls are these -/
structure Cur0 (P : Program) (k : Nat) (ds : List Deferred) (ρ : Emb) (e : Env) (M : Mem) (a : Act) (w : World) : Prop where
  er : ER P ρ e a.tmps
  hr : HR P ρ M.get w
  free : Free ρ M.next
  defers : a.defers = ds
  size : a.tmps.size = k
structure Cur (P : Program) (k n₀ : Nat) (ρ : Emb) (s : St) (a : Act) (w : World) : Prop where
  er : ER P ρ s.env a.tmps
  hr : HR P ρ s.mem.get w
  free : Free ρ s.mem.next
  defers : DRs P n₀ ρ s.mem.get w s.dfr a.defers
  size : a.tmps.size = k
theorem Cur.zero {P : Program} {k n₀ : Nat} {ρ : Emb} {s : St} {a : Act} {w : World} (h : Cur P k n₀ ρ s a w) : Cur0 P k a.defers ρ s.env s.mem a w := ⟨h.er, h.hr, h.free, rfl, h.size⟩
theorem Cur0.cur {P : Program} {k n₀ : Nat} {ρ ρ₀ : Emb} {m : Mm} {e : Env} {M : Mem} {l : List Dfr} {a a₀ : Act} {w w₀ : World} (h : Cur0 P k a₀.defers ρ e M a w) (hr : HR P ρ₀ m w₀) (hd : DRs P n₀ ρ₀ m w₀ l a₀.defers) (he : Ext ρ₀ m w₀ ρ M.get w) : Cur P k n₀ ρ ⟨e, M, l⟩ a w :=
  ⟨h.er, h.hr, h.free, by rw [h.defers]; exact hd.ext hr he, h.size⟩

structure Grow (ρ : Emb) (M : Mem) (w : World) (ρ' : Emb) (M' : Mem) (w' : World) : Prop where
  ext : Ext ρ M.get w ρ' M'.get w'
  keep : ∀ i, i < M.next → ρ i = none → ρ' i = none
  next : M.next ≤ M'.next

theorem Grow.refl (ρ : Emb) (M : Mem) (w : World) : Grow ρ M w ρ M w := ⟨Ext.refl _ _ _, fun _ _ h => h, Nat.le_refl _⟩
theorem Grow.trans {P : Program} {ρ ρ₁ ρ₂ : Emb} {M M₁ M₂ : Mem} {w w₁ w₂ : World} (hr : HR P ρ M.get w) (h : Grow ρ M w ρ₁ M₁ w₁) (h' : Grow ρ₁ M₁ w₁ ρ₂ M₂ w₂) :
    Grow ρ M w ρ₂ M₂ w₂ :=
  ⟨h.ext.trans hr h'.ext, fun i hi hn => h'.keep i (Nat.lt_of_lt_of_le hi h.next) (h.keep i hi hn), Nat.le_trans h.next h'.next⟩

def Post (P : Program) (k n₀ : Nat) (ρ : Emb) (M : Mem) (w : World) (e : Exit) (s' : St) : Exit → Act → World → Prop := fun x a' w' =>
  x = e ∧ ∃ ρ', Cur P k n₀ ρ' s' a' w' ∧ Grow ρ M w ρ' s'.mem w'

/-- code comes from one state to another one, by this exit -/
def ARun (P : Program) (r : Option Nat) (k : Nat) (c : Code) (s : St) (e : Exit) (s' : St) : Prop :=
  ∀ n₀ ρ a w, Cur P k n₀ ρ s a w → n₀ ≤ w.heap.size → c.wpIn (Fw r) 0 P (Post P k n₀ ρ s.mem w e s') a w

def AWP (P : Program) (r : Option Nat) (k : Nat) (c : Code) (s : St) (Q : Exit → St → Prop) : Prop := ∃ e s', ARun P r k c s e s' ∧ Q e s'

/-- a call comes to this result and this memory -/
def ACall (P : Program) (f : FuncId) (args : Array Value) (M : Mem) (r : Value) (M' : Mem) : Prop :=
  ∀ ρ w args', VRs P ρ args args' → HR P ρ M.get w → Free ρ M.next →
    Calls P f args' w fun e w' => ∃ r' ρ', e = .returned r' ∧ VR P ρ' r r' ∧ HR P ρ' M'.get w' ∧ Free ρ' M'.next ∧ Grow ρ M w ρ' M' w'

theorem AWP.mono {P : Program} {r : Option Nat} {k : Nat} {c : Code} {s : St} {Q Q' : Exit → St → Prop} (h : AWP P r k c s Q) (hq : ∀ e s', Q e s' → Q' e s') : AWP P r k c s Q' :=
  let ⟨e, s', hr, hQ⟩ := h; ⟨e, s', hr, hq e s' hQ⟩

theorem Ext.less {ρ ρ' : Emb} {m n m' : Mm} {w w' : World} (hs : Within m n) (he : Ext ρ m w ρ' m' w') : Ext ρ n w ρ' m' w' :=
  ⟨he.sub, he.size, fun B hB hw => he.heap B hB fun ⟨i, b, f, hi, h⟩ => hw ⟨i, b, f, hs i b hi, h⟩,
    fun i f hi hf => (he.new i f hi hf).imp id fun ⟨j, b, g, hj, h⟩ => ⟨j, b, g, hs j b hj, h⟩,
    fun i b' hi => (he.ids i b' hi).imp (fun ⟨b, hb, hk⟩ => ⟨b, hs i b hb, hk⟩) id, he.io⟩
theorem Ext.less' {ρ ρ' : Emb} {m m' n' : Mm} {w w' : World} (hs : Within n' m') (he : Ext ρ m w ρ' m' w') : Ext ρ m w ρ' n' w' :=
  ⟨he.sub, he.size, he.heap, he.new, fun i b' hi => he.ids i b' (hs i b' hi), he.io⟩

theorem ARun.skip {P : Program} {r : Option Nat} {k : Nat} {s : St} : ARun P r k .skip s .normal s := fun n₀ ρ a w hc hle => wpIn_skip ⟨rfl, ρ, hc, Grow.refl _ _ _⟩
theorem ARun.label {P : Program} {r : Option Nat} {k : Nat} {l : Nat} {s : St} : ARun P r k (.label l) s .normal s := fun n₀ ρ a w hc hle => wpIn_label ⟨rfl, ρ, hc, Grow.refl _ _ _⟩
theorem ARun.exit {P : Program} {r : Option Nat} {k id : Nat} {s : St} : ARun P r k (.exit id) s (.exit id) s := fun n₀ ρ a w hc hle => wpIn_exit ⟨rfl, ρ, hc, Grow.refl _ _ _⟩
theorem ARun.ret {P : Program} {r : Option Nat} {k : Nat} {s : St} : ARun P r k .ret s .ret s := fun n₀ ρ a w hc hle => wpIn_ret ⟨rfl, ρ, hc, Grow.refl _ _ _⟩

theorem Post.trans {P : Program} {k n₀ : Nat} {ρ ρ₁ : Emb} {M M₁ : Mem} {w w₁ : World} (hr : HR P ρ M.get w) (hg : Grow ρ M w ρ₁ M₁ w₁) {e : Exit} {s' : St} {x : Exit} {a' : Act} {w' : World}
    (h : Post P k n₀ ρ₁ M₁ w₁ e s' x a' w') : Post P k n₀ ρ M w e s' x a' w' := by
  obtain ⟨rfl, ρ', hc', hg'⟩ := h
  · exact ⟨rfl, ρ', hc', hg.trans hr hg'⟩

theorem ARun.seq {P : Program} {r : Option Nat} {k : Nat} {c d : Code} {s s₁ s₂ : St} {e : Exit} (h : ARun P r k c s .normal s₁) (h' : ARun P r k d s₁ e s₂) : ARun P r k (.seq c d) s e s₂ := by
  intro n₀ ρ a w hc hle
  refine wpIn_seq (wpIn_mono (h n₀ ρ a w hc hle) ?_)
  rintro x a' w' ⟨rfl, ρ', hc', hg⟩
  · exact wpIn_mono (h' n₀ ρ' a' w' hc' (Nat.le_trans hle hg.ext.size)) fun x a'' w'' hp => hp.trans hc.hr hg
theorem ARun.seq_out {P : Program} {r : Option Nat} {k : Nat} {c d : Code} {s s₁ : St} {e : Exit} (h : ARun P r k c s e s₁) (he : e ≠ .normal) : ARun P r k (.seq c d) s e s₁ := by
  intro n₀ ρ a w hc hle
  refine wpIn_seq (wpIn_mono (h n₀ ρ a w hc hle) ?_)
  rintro x a' w' ⟨rfl, hh⟩
  · cases x <;> first | exact absurd rfl he | exact ⟨rfl, hh⟩

def Then (K : St → Prop) (Q : Exit → St → Prop) : Exit → St → Prop
  | .normal, s => K s
  | e, s => Q e s

theorem AWP.seq {P : Program} {r : Option Nat} {k : Nat} {c d : Code} {s : St} {Q : Exit → St → Prop} (h : AWP P r k c s (Then (fun s' => AWP P r k d s' Q) Q)) : AWP P r k (.seq c d) s Q := by
  obtain ⟨e, s₁, hr, hq⟩ := h
  cases e with
  | normal => obtain ⟨e, s₂, hr', hq'⟩ := hq; exact ⟨e, s₂, hr.seq hr', hq'⟩
  | exit id => exact ⟨_, s₁, hr.seq_out (by simp), hq⟩
  | goto l => exact ⟨_, s₁, hr.seq_out (by simp), hq⟩
  | ret => exact ⟨_, s₁, hr.seq_out (by simp), hq⟩
  | panic ch => exact ⟨_, s₁, hr.seq_out (by simp), hq⟩
  | outgrown => exact ⟨_, s₁, hr.seq_out (by simp), hq⟩
theorem AWP.skip {P : Program} {r : Option Nat} {k : Nat} {s : St} {Q : Exit → St → Prop} (h : Q .normal s) : AWP P r k .skip s Q := ⟨_, _, ARun.skip, h⟩
theorem AWP.label {P : Program} {r : Option Nat} {k l : Nat} {s : St} {Q : Exit → St → Prop} (h : Q .normal s) : AWP P r k (.label l) s Q := ⟨_, _, ARun.label, h⟩
theorem AWP.exit {P : Program} {r : Option Nat} {k id : Nat} {s : St} {Q : Exit → St → Prop} (h : Q (.exit id) s) : AWP P r k (.exit id) s Q := ⟨_, _, ARun.exit, h⟩
theorem AWP.ret {P : Program} {r : Option Nat} {k : Nat} {s : St} {Q : Exit → St → Prop} (h : Q .ret s) : AWP P r k .ret s Q := ⟨_, _, ARun.ret, h⟩

/-- constants that name no memory -/
def plain : Value → Bool
  | .bool _ | .int _ _ | .float _ _ | .complex _ _ _ | .string _ | .pointer none | .slice none 0 0 | .map none | .chan none | .nilFunc | .nilIface => true
  | _ => false
theorem plain_self {P : Program} {ρ : Emb} {v : Value} (h : plain v = true) : VR P ρ v v := by
  cases v <;> simp [plain] at h <;> try constructor
  case pointer a => cases a <;> simp at h; exact .nilp
  case slice a n c =>
    cases a with
    | some a => simp at h
    | none => cases n <;> cases c <;> simp at h; exact .nils
  case map r => cases r <;> simp at h; exact .nilm
  case chan r => cases r <;> simp at h; exact .nilc

/-- what an operand is -/
def aev (e : Env) : Operand → Option Value
  | .tmp t => e.get t
  | .const v => bif plain v then some v else none
  | .func f => some (.func (.func f) #[] #[])
  | .global _ => none
theorem VR.fn {P : Program} {ρ : Emb} (fn : Fn) : VR P ρ (.func fn #[] #[]) (.func fn #[] #[]) := .func fn rfl rfl (by simp) (by simp)
theorem aev_eval {P : Program} {ρ : Emb} {e : Env} {a : Act} (h : ER P ρ e a.tmps) {x : Operand} {v : Value} (hx : aev e x = some v) : VR P ρ v (a.eval x) := by
  cases x with
  | tmp t =>
    obtain ⟨v', h1, h2⟩ := h t v hx
    simpa [Act.eval, h1] using h2
  | const c =>
    simp only [aev] at hx
    cases hp : plain c with
    | false => simp [hp] at hx
    | true => simp [hp] at hx; subst hx; exact plain_self hp
  | func f => simp only [aev, Option.some.injEq] at hx; subst hx; exact VR.fn _
  | global g => simp [aev] at hx

theorem ARun.cond {P : Program} {r : Option Nat} {k : Nat} {c : Operand} {x y : Code} {s s' : St} {e : Exit} {t : Bool} (hc : aev s.env c = some (.bool t)) (h : ARun P r k (if t then x else y) s e s') :
    ARun P r k (.cond c x y) s e s' := by
  intro n₀ ρ a w hcur hle
  have := aev_eval hcur.er hc
  generalize hv : a.eval c = v at this
  cases this
  exact wpIn_cond hv (h n₀ ρ a w hcur hle)
theorem AWP.cond {P : Program} {r : Option Nat} {k : Nat} {c : Operand} {x y : Code} {s : St} {Q : Exit → St → Prop} {t : Bool} (hc : aev s.env c = some (.bool t)) (h : AWP P r k (if t then x else y) s Q) :
    AWP P r k (.cond c x y) s Q := by
  obtain ⟨e, s', hr, hq⟩ := h
  exact ⟨e, s', ARun.cond hc hr, hq⟩
theorem AWP.cond_split {P : Program} {r : Option Nat} {k : Nat} {c : Operand} {x y : Code} {s : St} {Q : Exit → St → Prop} {t : Bool} (hc : aev s.env c = some (.bool t))
    (h : t = true → AWP P r k x s Q) (h' : t = false → AWP P r k y s Q) : AWP P r k (.cond c x y) s Q := by
  refine AWP.cond hc ?_
  cases t
  · exact h' rfl
  · exact h rfl

def InBlock (id : Nat) (Q : Exit → St → Prop) : Exit → St → Prop
  | .exit id', s => if id' = id then Q .normal s else Q (.exit id') s
  | e, s => Q e s

theorem ARun.block {P : Program} {r : Option Nat} {k id : Nat} {c : Code} {s s' : St} {e e' : Exit} (h : ARun P r k c s e s') (he : e' = match e with | .exit id' => if id' = id then .normal else .exit id' | e => e) :
    ARun P r k (.block id c) s e' s' := by
  intro n₀ ρ a w hc hle
  refine wpIn_block (wpIn_mono (h n₀ ρ a w hc hle) ?_)
  rintro x a' w' ⟨rfl, hh⟩
  · cases x with
    | exit id' =>
      by_cases hid : id' = id
      · simp only [Exit.inBlock, hid, if_true]; simp only [hid, if_true] at he; subst he; exact ⟨rfl, hh⟩
      · simp only [Exit.inBlock, hid, if_false]; simp only [hid, if_false] at he; subst he; exact ⟨rfl, hh⟩
    | _ => subst he; exact ⟨rfl, hh⟩
theorem AWP.block {P : Program} {r : Option Nat} {k id : Nat} {c : Code} {s : St} {Q : Exit → St → Prop} (h : AWP P r k c s (InBlock id Q)) : AWP P r k (.block id c) s Q := by
  obtain ⟨e, s', hr, hq⟩ := h
  refine ⟨_, s', ARun.block hr rfl, ?_⟩
  cases e with
  | exit id' =>
    by_cases hid : id' = id
    · simp only [InBlock, hid, if_true] at hq ⊢; exact hq
    · simp only [InBlock, hid, if_false] at hq ⊢; exact hq
  | _ => exact hq

/-- rounds of a loop: so many, to its end -/
inductive Rounds (P : Program) (r : Option Nat) (k : Nat) (c : Code) : Nat → St → Exit → St → Prop
  | out {s s' : St} {e : Exit} (h : ARun P r k c s e s') (he : e ≠ .normal) : Rounds P r k c 1 s e s'
  | more {n : Nat} {s s₁ s' : St} {e : Exit} (h : ARun P r k c s .normal s₁) (h' : Rounds P r k c n s₁ e s') : Rounds P r k c (n + 1) s e s'

theorem rounds_wp {P : Program} {r : Option Nat} {k n₀ : Nat} {c : Code} {n : Nat} {s s' : St} {e : Exit} (h : Rounds P r k c n s e s') {ρ₀ : Emb} {M₀ : Mem} {w₀ : World} (h0 : HR P ρ₀ M₀.get w₀) :
    ∀ ρ a w, Cur P k n₀ ρ s a w → n₀ ≤ w.heap.size → Grow ρ₀ M₀ w₀ ρ s.mem w → Code.roundsIn (Fw r) 0 P c (Post P k n₀ ρ₀ M₀ w₀ e s') n a w := by
  induction h with
  | out h he =>
    intro ρ a w hc hle hg
    refine wpIn_mono (h n₀ ρ a w hc hle) ?_
    intro x a' w' hp
    have := hp.trans h0 hg
    obtain ⟨rfl, hh⟩ := hp
    · cases x <;> first | exact absurd rfl he | exact this
  | more h _ ih =>
    intro ρ a w hc hle hg
    refine wpIn_mono (h n₀ ρ a w hc hle) ?_
    rintro x a' w' ⟨rfl, ρ', hc', hg'⟩
    · exact ih ρ' a' w' hc' (Nat.le_trans hle hg'.ext.size) (hg.trans h0 hg')
theorem ARun.loop {P : Program} {r : Option Nat} {k n : Nat} {c : Code} {s s' : St} {e : Exit} (h : Rounds P r k c n s e s') : ARun P r k (.loop c) s e s' :=
  fun n₀ ρ a w hc hle => wpIn_loop_rounds n (rounds_wp h hc.hr ρ a w hc hle (Grow.refl _ _ _))

/-- a loop, by what holds ahead of each round and what grows less -/
theorem AWP.loop {P : Program} {r : Option Nat} {k : Nat} {c : Code} {Q : Exit → St → Prop} (I : St → Prop) (μ : St → Nat) {s : St} (h0 : I s)
    (round : ∀ s, I s → AWP P r k c s (Then (fun s' => I s' ∧ μ s' < μ s) Q)) : AWP P r k (.loop c) s Q := by
  have key : ∀ n s, μ s = n → I s → ∃ m e s', Rounds P r k c m s e s' ∧ Q e s' := by
    intro n
    induction n using Nat.strongRecOn with
    | _ n ih =>
      intro s hn hI
      obtain ⟨e, s₁, hr, hq⟩ := round s hI
      cases e with
      | normal =>
        obtain ⟨r, e, s', hr', hq'⟩ := ih (μ s₁) (hn ▸ hq.2) s₁ rfl hq.1
        exact ⟨_, e, s', .more hr hr', hq'⟩
      | exit id => exact ⟨1, _, s₁, .out hr (by simp), hq⟩
      | goto l => exact ⟨1, _, s₁, .out hr (by simp), hq⟩
      | ret => exact ⟨1, _, s₁, .out hr (by simp), hq⟩
      | panic ch => exact ⟨1, _, s₁, .out hr (by simp), hq⟩
      | outgrown => exact ⟨1, _, s₁, .out hr (by simp), hq⟩
  obtain ⟨r, e, s', hr, hq⟩ := key _ s rfl h0
  exact ⟨e, s', ARun.loop hr, hq⟩
end Go.Proofs.YtopblipficpilaaGreatDoor.AY

/- The layer, third part: regions, in whichever order they run. -/
namespace Go.Proofs.YtopblipficpilaaGreatDoor.AY
open Go
set_option linter.unusedVariables false
set_option linter.unusedSimpArgs false

def updE (ρ : Emb) (id : Nat) (f : Inf) : Emb := fun i => if i = id then some f else ρ i
def updM (m : Mm) (id : Nat) (b : Blk) : Mm := fun i => if i = id then some b else m i

/-- the operands are known, and the machine's are such -/
def Opnds (P : Program) (ρ : Emb) (ev : Operand → Option Value) (o : Oper) (a : Act) : Prop := ∀ x, x ∈ o.op.operands → ∃ v, ev x = some v ∧ VR P ρ v (a.eval x)

/-- it comes to this value and leaves the memory as it is -/
def StillOk (P : Program) (o : Oper) (ev : Operand → Option Value) (m : Mm) (v : Value) : Prop :=
  ∀ ρ a w (K : Act → World → Prop) (Q : Exit → Act → World → Prop), Opnds P ρ ev o a → HR P ρ m w →
    (∀ v' w', VR P ρ v v' → HR P ρ m w' → Ext ρ m w ρ m w' → K (a.put o.dst v') w') → o.wp P a w K Q
/-- it makes this block, whichever number that gets -/
def AllocOk (P : Program) (o : Oper) (ev : Operand → Option Value) (b : Blk) (mk : Nat → Value) : Prop :=
  ∀ ρ m a w id (K : Act → World → Prop) (Q : Exit → Act → World → Prop), Opnds P ρ ev o a → HR P ρ m w → ρ id = none →
    (∀ v' f w', VR P (updE ρ id f) (mk id) v' → HR P (updE ρ id f) (updM m id b) w' → Ext ρ m w (updE ρ id f) (updM m id b) w' → K (a.put o.dst v') w') →
    o.wp P a w K Q
/-- whatever else it does -/
def EffOk (P : Program) (o : Oper) (ev : Operand → Option Value) (M : Mem) (v : Value) (M' : Mem) : Prop :=
  ∀ ρ a w (K : Act → World → Prop) (Q : Exit → Act → World → Prop), Opnds P ρ ev o a → HR P ρ M.get w → Free ρ M.next →
    (∀ v' ρ' w', VR P ρ' v v' → HR P ρ' M'.get w' → Free ρ' M'.next → Grow ρ M w ρ' M' w' → K (a.put o.dst v') w') →
    o.wp P a w K Q

theorem put_defersK (a : Act) (d : Option Nat) (v : Value) : (a.put d v).defers = a.defers := by cases d <;> rfl
theorem StillOk.in_ {P : Program} {o : Oper} {ev : Operand → Option Value} {m : Mm} {v : Value} (h : StillOk P o ev m v) (r : Option Nat) (ρ : Emb) (a : Act) (w : World) (K : Act → World → Prop) (Q : Exit → Act → World → Prop) (ho : Opnds P ρ ev o a) (hr : HR P ρ m w)
    (hk : ∀ v' w', VR P ρ v v' → HR P ρ m w' → Ext ρ m w ρ m w' → K (a.put o.dst v') w') : o.wpIn (Fw r) 0 P a w K Q :=
  opIn_of_wp r (nodefer_of_wp (h ρ a w _ _ ho hr fun v' w' _ _ _ => put_defersK _ _ _)) (h ρ a w K Q ho hr hk)
theorem AllocOk.in_ {P : Program} {o : Oper} {ev : Operand → Option Value} {b : Blk} {mk : Nat → Value} (h : AllocOk P o ev b mk) (r : Option Nat) (ρ : Emb) (m : Mm) (a : Act) (w : World) (id : Nat) (K : Act → World → Prop) (Q : Exit → Act → World → Prop) (ho : Opnds P ρ ev o a) (hr : HR P ρ m w) (hn : ρ id = none)
    (hk : ∀ v' f w', VR P (updE ρ id f) (mk id) v' → HR P (updE ρ id f) (updM m id b) w' → Ext ρ m w (updE ρ id f) (updM m id b) w' → K (a.put o.dst v') w') : o.wpIn (Fw r) 0 P a w K Q :=
  opIn_of_wp r (nodefer_of_wp (h ρ m a w id _ _ ho hr hn fun v' f w' _ _ _ => put_defersK _ _ _)) (h ρ m a w id K Q ho hr hn hk)
theorem EffOk.in_ {P : Program} {o : Oper} {ev : Operand → Option Value} {M : Mem} {v : Value} {M' : Mem} (h : EffOk P o ev M v M') (r : Option Nat) (ρ : Emb) (a : Act) (w : World) (K : Act → World → Prop) (Q : Exit → Act → World → Prop) (ho : Opnds P ρ ev o a) (hr : HR P ρ M.get w) (hf : Free ρ M.next)
    (hk : ∀ v' ρ' w', VR P ρ' v v' → HR P ρ' M'.get w' → Free ρ' M'.next → Grow ρ M w ρ' M' w' → K (a.put o.dst v') w') : o.wpIn (Fw r) 0 P a w K Q :=
  opIn_of_wp r (nodefer_of_wp (h ρ a w _ _ ho hr hf fun v' ρ' w' _ _ _ _ => put_defersK _ _ _)) (h ρ a w K Q ho hr hf hk)

theorem StillOk.more {P : Program} {o : Oper} {ev : Operand → Option Value} {m n : Mm} {v : Value} (h : StillOk P o ev m v) (hs : Within m n) : StillOk P o ev n v := by
  intro ρ a w K Q ho hr hk
  refine h ρ a w K Q ho (hr.within hs) fun v' w' hv hm he => ?_
  obtain ⟨h1, h2⟩ := frame hr hs he hm
  have hw : Within n (join m m n) := fun i b hi => by
    unfold join
    cases hmi : m i with
    | none => simp [hi]
    | some c => have := hs i c hmi; rw [hi] at this; cases this; rfl
  exact hk v' w' hv (h1.within hw) (h2.less' hw)

inductive Cls where
  | skip
  | pure
  | read
  | alloc (id : Nat) (b : Blk)
  | eff

/-- a step: which operation, what was known and the memory ahead of it, of which kind it is, its value, the memory behind it -/
structure Tk where
  i : Nat
  o : Oper
  env : Env
  pre : Mem
  cls : Cls
  v : Value
  post : Mem

def isAlloc (P : Program) (o : Oper) : Bool := match o.op with
  | .alloc _ | .box _ _ | .buildSlice _ _ _ | .makeSlice _ _ _ | .makeMap _ _ => true
  | .convert src dst _ => match P.underlying src, P.underlying dst with
    | some .string, some (.slice _) => true
    | _, _ => false
  | _ => false
def isEff (o : Oper) : Bool := match o.op with
  | .store _ _ _ => true
  | .mapUpdate _ _ _ _ => true
  | .range _ _ => true
  | .next _ _ => true
  | .call c => match c.callee with
    | .builtin b => match b with
      | .len | .min | .max | .cap => false
      | _ => true
    | _ => true
  | _ => false

def wantA (ops : Array Oper) (e : Env) (o : Oper) : Option Bool :=
  match o.guard with
  | none => some true
  | some (j, want) => match (ops[j]?).bind (·.dst) with
    | none => some false
    | some t => match e.get t with
      | some (.bool b) => some (b == want)
      | some (.tuple _) => some false
      | _ => none

structure Tk.Ok (P : Program) (ops : Array Oper) (t : Tk) : Prop where
  op : ops[t.i]? = some t.o
  kind : isEff t.o = true → t.cls = .skip ∨ t.cls = .eff
  cls : match t.cls with
    | .skip => wantA ops t.env t.o = some false ∧ t.v = undef ∧ t.post = t.pre
    | .pure => wantA ops t.env t.o = some true ∧ (∀ x, x ∈ t.o.op.operands → ∃ v, aev t.env x = some v) ∧ (∀ m, StillOk P t.o (aev t.env) m t.v) ∧ t.post = t.pre
    | .read => wantA ops t.env t.o = some true ∧ (∀ x, x ∈ t.o.op.operands → ∃ v, aev t.env x = some v) ∧ t.post = t.pre
    | .alloc id b => wantA ops t.env t.o = some true ∧ (∀ x, x ∈ t.o.op.operands → ∃ v, aev t.env x = some v) ∧ isAlloc P t.o = true ∧ (∃ mk, t.v = mk id ∧ AllocOk P t.o (aev t.env) b mk) ∧ t.post = t.pre.put id b
    | .eff => wantA ops t.env t.o = some true ∧ (∀ x, x ∈ t.o.op.operands → ∃ v, aev t.env x = some v) ∧ isEff t.o = true ∧ EffOk P t.o (aev t.env) t.pre t.v t.post

def Chain : List Tk → Env → Mem → Env → Mem → Prop
  | [], e, M, e', M' => e' = e ∧ M' = M
  | t :: T, e, M, e', M' => t.env = e ∧ t.pre = M ∧ Chain T (e.put t.o.dst t.v) t.post e' M'

def envOf (e : Env) (T : List Tk) : Env := T.foldl (fun e t => e.put t.o.dst t.v) e

theorem Chain.env {T : List Tk} : ∀ {e : Env} {M : Mem} {e' : Env} {M' : Mem}, Chain T e M e' M' → e' = envOf e T := by
  induction T with
  | nil => intro e M e' M' h; exact h.1
  | cons t T ih => intro e M e' M' h; exact ih h.2.2
theorem Chain.split {A B : List Tk} : ∀ {e : Env} {M : Mem} {e' : Env} {M' : Mem}, Chain (A ++ B) e M e' M' → ∃ M₁, Chain A e M (envOf e A) M₁ ∧ Chain B (envOf e A) M₁ e' M' := by
  induction A with
  | nil => intro e M e' M' h; exact ⟨M, ⟨rfl, rfl⟩, h⟩
  | cons t A ih =>
    intro e M e' M' h
    obtain ⟨M₁, h1, h2⟩ := ih h.2.2
    exact ⟨M₁, ⟨h.1, h.2.1, h1⟩, h2⟩

theorem envOf_get (T : List Tk) : ∀ (e : Env) (s : Nat) (v : Value), (envOf e T).get s = some v → (∃ u, u ∈ T ∧ u.o.dst = some s ∧ u.v = v) ∨ (e.get s = some v ∧ ∀ u, u ∈ T → u.o.dst ≠ some s) := by
  induction T with
  | nil => intro e s v h; exact .inr ⟨h, by simp⟩
  | cons t T ih =>
    intro e s v h
    rcases ih (e.put t.o.dst t.v) s v h with ⟨u, hu, hd, hv⟩ | ⟨hg, hn⟩
    · exact .inl ⟨u, List.mem_cons_of_mem _ hu, hd, hv⟩
    · rw [Env.get_put] at hg
      by_cases hd : t.o.dst = some s
      · simp only [hd, if_true, Option.some.injEq] at hg
        exact .inl ⟨t, List.mem_cons_self, hd, hg⟩
      · simp only [hd, if_false] at hg
        exact .inr ⟨hg, fun u hu => (List.mem_cons.1 hu).elim (fun h => h ▸ hd) (hn u)⟩

/-- steps without effects leave the memory but for what they make -/
theorem Chain.quiet {P : Program} {ops : Array Oper} {T : List Tk} : ∀ {e : Env} {M : Mem} {e' : Env} {M' : Mem}, Chain T e M e' M' → (∀ t, t ∈ T → t.Ok P ops) → (∀ t, t ∈ T → isEff t.o = false) →
    M'.next = M.next ∧ (∀ i b, M'.get i = some b → M.get i = some b ∨ ∃ t, t ∈ T ∧ t.cls = .alloc i b) ∧ (∀ i, M'.get i = none → M.get i = none ∧ ∀ t b, t ∈ T → t.cls ≠ .alloc i b) := by
  induction T with
  | nil => intro e M e' M' h _ _; obtain ⟨rfl, rfl⟩ := h; exact ⟨rfl, fun i b h => .inl h, fun i h => ⟨h, by simp⟩⟩
  | cons t T ih =>
    intro e M e' M' h hok hne
    obtain ⟨h1, h2, h3⟩ := h
    obtain ⟨ih1, ih2, ih3⟩ := ih h3 (fun u hu => hok u (List.mem_cons_of_mem _ hu)) (fun u hu => hne u (List.mem_cons_of_mem _ hu))
    have ho := (hok t List.mem_cons_self).cls
    have hn := hne t List.mem_cons_self
    have lift : ∀ i b, (t.post.get i = some b ∨ ∃ u, u ∈ T ∧ u.cls = .alloc i b) → (t.post.get i = some b → M.get i = some b ∨ t.cls = .alloc i b) → M.get i = some b ∨ ∃ u, u ∈ t :: T ∧ u.cls = .alloc i b := by
      rintro i b (h | ⟨u, hu, hc⟩) hh
      · rcases hh h with h | h
        · exact .inl h
        · exact .inr ⟨t, List.mem_cons_self, h⟩
      · exact .inr ⟨u, List.mem_cons_of_mem _ hu, hc⟩
    have key : (t.post.next = M.next ∧ (∀ i b, t.post.get i = some b → M.get i = some b ∨ t.cls = .alloc i b) ∧ (∀ i, t.post.get i = none → M.get i = none ∧ ∀ b, t.cls ≠ .alloc i b)) := by
      cases hc : t.cls with
      | skip => rw [hc] at ho; obtain ⟨_, _, hp⟩ := ho; rw [hp, h2]; exact ⟨rfl, fun i b h => .inl h, fun i h => ⟨h, by simp⟩⟩
      | pure => rw [hc] at ho; obtain ⟨_, _, _, hp⟩ := ho; rw [hp, h2]; exact ⟨rfl, fun i b h => .inl h, fun i h => ⟨h, by simp⟩⟩
      | read => rw [hc] at ho; obtain ⟨_, _, hp⟩ := ho; rw [hp, h2]; exact ⟨rfl, fun i b h => .inl h, fun i h => ⟨h, by simp⟩⟩
      | alloc id b =>
        rw [hc] at ho; obtain ⟨_, _, _, _, hp⟩ := ho
        rw [hp, h2]
        refine ⟨Mem.next_put _ _ _, fun i c h => ?_, fun i h => ?_⟩
        · rw [Mem.get_put] at h
          by_cases hi : i = id
          · subst hi; simp at h; subst h; exact .inr rfl
          · simp [hi] at h; exact .inl h
        · rw [Mem.get_put] at h
          by_cases hi : i = id
          · simp [hi] at h
          · simp [hi] at h; exact ⟨h, by rintro c hh; injection hh with h1 _; exact hi h1.symm⟩
      | eff => rw [hc] at ho; obtain ⟨_, _, he, _⟩ := ho; rw [hn] at he; cases he
    refine ⟨ih1.trans key.1, fun i b h => lift i b (ih2 i b h) (key.2.1 i b), fun i h => ?_⟩
    obtain ⟨hp, hT⟩ := ih3 i h
    obtain ⟨hM, ht⟩ := key.2.2 i hp
    exact ⟨hM, fun u b hu => (List.mem_cons.1 hu).elim (fun h => h ▸ ht b) (hT u b)⟩

def Direct (ops : Array Oper) (d j : Nat) : Prop := ∃ o, ops[j]? = some o ∧ ∃ e, e ∈ o.after ∧ Region.binds .any e = true ∧ e.on = d
inductive Anc (ops : Array Oper) : Nat → Nat → Prop
  | one {d j : Nat} (h : Direct ops d j) : Anc ops d j
  | more {i d j : Nat} (h : Anc ops i d) (h' : Direct ops d j) : Anc ops i j

/-- the temporaries that an operation looks at -/
def looks (ops : Array Oper) (o : Oper) (s : Nat) : Prop := Operand.tmp s ∈ o.op.operands ∨ ∃ j want, o.guard = some (j, want) ∧ (ops[j]?).bind (·.dst) = some s

/-- what a region's own form tells -/
structure Static (P : Program) (k : Nat) (ops : Array Oper) (T : List Tk) : Prop where
  len : T.length = ops.size
  nodup : ∀ A t C, T = A ++ t :: C → ∀ u, u ∈ A → u.i ≠ t.i
  all : ∀ i, i < ops.size → ∃ t, t ∈ T ∧ t.i = i
  lt : ∀ t, t ∈ T → t.i < ops.size
  topo : ∀ A t C, T = A ++ t :: C → ∀ d, Direct ops d t.i → ∃ u, u ∈ A ∧ u.i = d
  dst : ∀ t s, t ∈ T → t.o.dst = some s → s < k
  one : ∀ A t C, T = A ++ t :: C → ∀ u, u ∈ A → ∀ s, u.o.dst = some s → t.o.dst ≠ some s
  look : ∀ t u, t ∈ T → u ∈ T → t.i ≠ u.i → ∀ s, u.o.dst = some s → looks ops t.o s → Anc ops u.i t.i ∨ Anc ops t.i u.i
  effs : ∀ A t C, T = A ++ t :: C → isEff t.o = true → ∀ u, u ∈ A → isEff u.o = true ∨ isAlloc P u.o = true → Anc ops u.i t.i

def lastEff (T : List Tk) : Prop := T = [] ∨ ∃ A t, T = A ++ [t] ∧ isEff t.o = true
def bound (M : Mem) : List Tk → Mem
  | [] => M
  | t :: T => bound t.post T

theorem bound_snoc (M : Mem) (A : List Tk) (t : Tk) : bound M (A ++ [t]) = t.post := by
  induction A generalizing M with
  | nil => rfl
  | cons u A ih => exact ih u.post

/-- a read's value is the same wherever it may run -/
def Reads (P : Program) (M : Mem) (T : List Tk) (am : Nat → Nat → Bool) : Prop :=
  ∀ t, t ∈ T → t.cls = .read → ∀ A B, T = A ++ B → lastEff A → (∀ u, u ∈ A → isEff u.o = true → am t.i u.i = false) → (∀ u, u ∈ B → isEff u.o = true → am u.i t.i = false) →
    ∃ m : Mm, (∀ i b, m i = some b → (bound M A).get i = some b ∨ ∃ u, u ∈ B ∧ u.cls = .alloc i b ∧ am u.i t.i = true) ∧ StillOk P t.o (aev t.env) m t.v

structure Inv (P : Program) (k : Nat) (e0 : Env) (M0 : Mem) (ρ0 : Emb) (w0 : World) (ds : List Deferred) (T : List Tk) (S : Nat → Prop) (a : Act) (w : World) (T1 T2 : List Tk) (ρ : Emb) (p : Mm) (B : Mem) : Prop where
  cut : T = T1 ++ T2
  last : lastEff T1
  base : B = bound M0 T1
  done : ∀ t, t ∈ T1 → isEff t.o = true ∨ isAlloc P t.o = true → S t.i
  open_ : ∀ t, t ∈ T2 → isEff t.o = true → ¬ S t.i
  hr : HR P ρ p w
  free : Free ρ B.next
  pin : ∀ i b, B.get i = some b → p i = some b
  pal : ∀ t i b, t ∈ T2 → t.cls = .alloc i b → S t.i → p i = some b
  pof : ∀ i b, p i = some b → B.get i = some b ∨ ∃ t, t ∈ T2 ∧ t.cls = .alloc i b ∧ S t.i
  un : ∀ t i b, t ∈ T2 → t.cls = .alloc i b → ¬ S t.i → ρ i = none
  res : ∀ t i b, t ∈ T2 → t.cls = .alloc i b → i < B.next ∧ B.get i = none
  tin : ∀ t s, t ∈ T → S t.i → t.o.dst = some s → ∃ v', a.tmps[s]? = some v' ∧ VR P ρ t.v v'
  tof : ∀ s v, e0.get s = some v → (∀ t, t ∈ T → S t.i → t.o.dst ≠ some s) → ∃ v', a.tmps[s]? = some v' ∧ VR P ρ v v'
  ext : Ext ρ0 M0.get w0 ρ p w
  keep : ∀ i, i < M0.next → ρ0 i = none → (∀ t b, t ∈ T → t.cls ≠ .alloc i b) → ρ i = none
  next : M0.next ≤ B.next
  defers : a.defers = ds
  size : a.tmps.size = k
end Go.Proofs.YtopblipficpilaaGreatDoor.AY

/- The layer, fourth part: regions, in whichever order they run: the proof. -/
namespace Go.Proofs.YtopblipficpilaaGreatDoor.AY
open Go
set_option linter.unusedVariables false
set_option linter.unusedSimpArgs false

theorem Chain.bound {T : List Tk} : ∀ {e : Env} {M : Mem} {e' : Env} {M' : Mem}, Chain T e M e' M' → M' = bound M T := by
  induction T with
  | nil => intro e M e' M' h; exact h.2
  | cons t T ih => intro e M e' M' h; exact ih h.2.2

theorem put_at {a : Act} {d : Option Nat} {v : Value} {s : Nat} (h : d = some s) (hs : s < a.tmps.size) : (a.put d v).tmps[s]? = some v := by
  subst h; simp [Act.put, hs]
theorem put_off {a : Act} {d : Option Nat} {v : Value} {s : Nat} (h : d ≠ some s) : (a.put d v).tmps[s]? = a.tmps[s]? := by
  cases d with
  | none => rfl
  | some t => exact Array.getElem?_setIfInBounds_ne (by rintro rfl; exact h rfl)
theorem put_size (a : Act) (d : Option Nat) (v : Value) : (a.put d v).tmps.size = a.tmps.size := by cases d <;> simp [Act.put]
theorem put_defers' (a : Act) (d : Option Nat) (v : Value) : (a.put d v).defers = a.defers := by cases d <;> rfl

section
variable {P : Program} {ops : Array Oper} {k : Nat} {e0 : Env} {M0 : Mem} {ρ0 : Emb} {w0 : World} {ds : List Deferred} {T : List Tk}

theorem Static.eq (hst : Static P k ops T) {t u : Tk} (ht : t ∈ T) (hu : u ∈ T) (h : t.i = u.i) : t = u := by
  obtain ⟨A, C, hA⟩ := List.append_of_mem ht
  have h1 := hst.nodup A t C hA
  rw [hA] at hu
  rcases List.mem_append.1 hu with h2 | h2
  · exact absurd h.symm (h1 u h2)
  · rcases List.mem_cons.1 h2 with h3 | h3
    · exact h3.symm
    · obtain ⟨C1, C2, hC⟩ := List.append_of_mem h3
      exact absurd h (hst.nodup (A ++ t :: C1) u C2 (by rw [hA, hC]; simp) t (by simp))

theorem Static.dsts (hst : Static P k ops T) {t u : Tk} (ht : t ∈ T) (hu : u ∈ T) (hne : t.i ≠ u.i) {s : Nat} (h : t.o.dst = some s) : u.o.dst ≠ some s := by
  intro h'
  obtain ⟨A, C, hA⟩ := List.append_of_mem ht
  have hu' := hu
  rw [hA] at hu'
  rcases List.mem_append.1 hu' with h2 | h2
  · exact hst.one A t C hA u h2 s h' h
  · rcases List.mem_cons.1 h2 with h3 | h3
    · exact hne (h3 ▸ rfl)
    · obtain ⟨C1, C2, hC⟩ := List.append_of_mem h3
      exact hst.one (A ++ t :: C1) u C2 (by rw [hA, hC]; simp) t (by simp) s h h'

theorem Static.anc_before (hst : Static P k ops T) {i j : Nat} (h : Anc ops i j) : ∀ A t C, T = A ++ t :: C → t.i = j → ∃ u, u ∈ A ∧ u.i = i := by
  induction h with
  | one h => intro A t C hT hj; exact hst.topo A t C hT _ (hj ▸ h)
  | more h h' ih =>
    intro A t C hT hj
    obtain ⟨u, hu, hd⟩ := hst.topo A t C hT _ (hj ▸ h')
    obtain ⟨A1, A2, hA⟩ := List.append_of_mem hu
    obtain ⟨x, hx, hxi⟩ := ih A1 u (A2 ++ t :: C) (by rw [hT, hA]; simp) hd
    exact ⟨x, by rw [hA]; exact List.mem_append_left _ hx, hxi⟩

theorem anc_done {S : Nat → Prop} (hcl : ∀ j, S j → ∀ d, Direct ops d j → S d) {i j : Nat} (h : Anc ops i j) : (∀ d, Direct ops d j → S d) → S i := by
  induction h with
  | one h => exact fun hd => hd _ h
  | more h h' ih => exact fun hd => ih (hcl _ (hd _ h'))

/-- what an operation looks at is told by the machine's temporaries -/
theorem seen_at (hst : Static P k ops T) {S : Nat → Prop} {a : Act} {ρ : Emb} (hcl : ∀ j, S j → ∀ d, Direct ops d j → S d) {A C : List Tk} {t : Tk} (hT : T = A ++ t :: C)
    (hno : ¬ S t.i) (hd : ∀ d, Direct ops d t.i → S d)
    (tin : ∀ t s, t ∈ T → S t.i → t.o.dst = some s → ∃ v', a.tmps[s]? = some v' ∧ VR P ρ t.v v')
    (tof : ∀ s v, e0.get s = some v → (∀ t, t ∈ T → S t.i → t.o.dst ≠ some s) → ∃ v', a.tmps[s]? = some v' ∧ VR P ρ v v')
    {s : Nat} (hl : looks ops t.o s) {v : Value} (hv : (envOf e0 A).get s = some v) : ∃ v', a.tmps[s]? = some v' ∧ VR P ρ v v' := by
  have htT : t ∈ T := by rw [hT]; simp
  have hAT : ∀ u, u ∈ A → u ∈ T := fun u hu => by rw [hT]; exact List.mem_append_left _ hu
  rcases envOf_get A e0 s v hv with ⟨u, hu, hds, hvu⟩ | ⟨hg, hn⟩
  · have hne : t.i ≠ u.i := fun h => hst.nodup A t C hT u hu h.symm
    have hS : S u.i := by
      rcases hst.look t u htT (hAT u hu) hne s hds hl with h | h
      · exact anc_done hcl h hd
      · obtain ⟨A1, A2, hA⟩ := List.append_of_mem hu
        obtain ⟨x, hx, hxi⟩ := hst.anc_before h A1 u (A2 ++ t :: C) (by rw [hT, hA]; simp) rfl
        exact absurd hxi (hst.nodup A t C hT x (by rw [hA]; exact List.mem_append_left _ hx))
    obtain ⟨v', h1, h2⟩ := tin u s (hAT u hu) hS hds
    exact ⟨v', h1, hvu ▸ h2⟩
  · refine tof s v hg fun u hu hS hds => ?_
    by_cases hne : t.i = u.i
    · exact hno (hne ▸ hS)
    · rcases hst.look t u htT hu hne s hds hl with h | h
      · obtain ⟨x, hx, hxi⟩ := hst.anc_before h A t C hT rfl
        have : x = u := hst.eq (hAT x hx) hu hxi
        exact hn x hx (this ▸ hds)
      · exact hno (anc_done hcl h (hcl _ hS))

theorem want_at {a : Act} {ρ : Emb} {t : Tk} {e : Env} (hs : ∀ s, looks ops t.o s → ∀ v, e.get s = some v → ∃ v', a.tmps[s]? = some v' ∧ VR P ρ v v') {b : Bool} (h : wantA ops e t.o = some b) :
    Region.wanted t.o (yielded ops a.tmps) = b := by
  unfold wantA at h
  unfold Region.wanted
  cases hg : t.o.guard with
  | none => simp only [hg, Option.some.injEq] at h; simp [h]
  | some jw =>
    obtain ⟨j, want⟩ := jw
    simp only [hg] at h
    cases hd : (ops[j]?).bind (·.dst) with
    | none => simp only [hd, Option.some.injEq] at h; simp [yielded, hd, ← h]
    | some s =>
      simp only [hd] at h
      cases hv : e.get s with
      | none => simp [hv] at h
      | some v =>
        obtain ⟨v', h1, h2⟩ := hs s (.inr ⟨j, want, hg, hd⟩) v hv
        simp only [hv] at h
        cases h2 <;> simp at h
        · simp only [yielded, hd, Option.bind_some, h1, ← h]; rename_i c; cases c <;> cases want <;> rfl
        · simp only [yielded, hd, Option.bind_some, h1]; subst h; rfl

theorem tin_step (hst : Static P k ops T) {S : Nat → Prop} {a : Act} {ρ ρ' : Emb} {t : Tk} (htT : t ∈ T) (hno : ¬ S t.i) (hsz : a.tmps.size = k) (hs : Sub ρ ρ') {v' : Value} (hv : VR P ρ' t.v v')
    (tin : ∀ t s, t ∈ T → S t.i → t.o.dst = some s → ∃ v', a.tmps[s]? = some v' ∧ VR P ρ t.v v') :
    ∀ u s, u ∈ T → (u.i = t.i ∨ S u.i) → u.o.dst = some s → ∃ v'', (a.put t.o.dst v').tmps[s]? = some v'' ∧ VR P ρ' u.v v'' := by
  intro u s hu hS hds
  by_cases hne : u.i = t.i
  · have : u = t := hst.eq hu htT hne
    subst this
    exact ⟨v', put_at hds (hsz ▸ hst.dst u s hu hds), hv⟩
  · obtain ⟨x, h1, h2⟩ := tin u s hu (hS.resolve_left hne) hds
    exact ⟨x, by rw [put_off (hst.dsts hu htT hne hds)]; exact h1, h2.mono hs⟩

theorem tof_step (hst : Static P k ops T) {S : Nat → Prop} {a : Act} {ρ ρ' : Emb} {t : Tk} (htT : t ∈ T) (hs : Sub ρ ρ') {v' : Value}
    (tof : ∀ s v, e0.get s = some v → (∀ t, t ∈ T → S t.i → t.o.dst ≠ some s) → ∃ v', a.tmps[s]? = some v' ∧ VR P ρ v v') :
    ∀ s v, e0.get s = some v → (∀ u, u ∈ T → (u.i = t.i ∨ S u.i) → u.o.dst ≠ some s) → ∃ v'', (a.put t.o.dst v').tmps[s]? = some v'' ∧ VR P ρ' v v'' := by
  intro s v hg hn
  obtain ⟨x, h1, h2⟩ := tof s v hg fun u hu hS => hn u hu (.inr hS)
  exact ⟨x, by rw [put_off (hn t htT (.inl rfl))]; exact h1, h2.mono hs⟩

theorem first_of {p : Tk → Prop} [DecidablePred p] (h : ∃ t, t ∈ T ∧ p t) : ∃ A t C, T = A ++ t :: C ∧ p t ∧ ∀ u, u ∈ A → ¬ p u := by
  induction T with
  | nil => obtain ⟨t, ht, _⟩ := h; cases ht
  | cons x T ih =>
    by_cases hx : p x
    · exact ⟨[], x, T, rfl, hx, by simp⟩
    · obtain ⟨t, ht, hp⟩ := h
      obtain ⟨A, t, C, h1, h2, h3⟩ := ih ⟨t, (List.mem_cons.1 ht).resolve_left (fun h => hx (h ▸ hp)), hp⟩
      exact ⟨x :: A, t, C, by rw [h1]; rfl, h2, fun u hu => (List.mem_cons.1 hu).elim (fun h => h ▸ hx) (h3 u)⟩

theorem lastEff_snoc (A U : List Tk) {t : Tk} (h : isEff t.o = true) : lastEff (A ++ U ++ [t]) := .inr ⟨A ++ U, t, rfl, h⟩

/-- the end: all has run -/
theorem Inv.done_all (hok : ∀ t, t ∈ T → t.Ok P ops) {e' : Env} {M' : Mem} (hch : Chain T e0 M0 e' M') {S : Nat → Prop} {a : Act} {w : World} {T1 T2 : List Tk} {ρ : Emb} {p : Mm} {B : Mem}
    (hi : Inv P k e0 M0 ρ0 w0 ds T S a w T1 T2 ρ p B) (hall : ∀ t, t ∈ T → S t.i) :
    Cur0 P k ds ρ e' M' a w ∧ Ext ρ0 M0.get w0 ρ M'.get w ∧ (∀ i, i < M0.next → ρ0 i = none → (∀ t b, t ∈ T → t.cls ≠ .alloc i b) → ρ i = none) ∧ M0.next ≤ M'.next := by
  have hT2 : ∀ t, t ∈ T2 → t ∈ T := fun t ht => by rw [hi.cut]; exact List.mem_append_right _ ht
  have hne : ∀ t, t ∈ T2 → isEff t.o = false := fun t ht => by
    cases h : isEff t.o with
    | false => rfl
    | true => exact absurd (hall t (hT2 t ht)) (hi.open_ t ht h)
  have hch' := hch
  rw [hi.cut] at hch'
  obtain ⟨M₁, h1, h2⟩ := hch'.split
  have hB : M₁ = B := by rw [h1.bound, hi.base]
  subst hB
  obtain ⟨hn, hg, _⟩ := h2.quiet (fun t ht => hok t (hT2 t ht)) hne
  have hw : Within M'.get p := fun i b hb => (hg i b hb).elim (hi.pin i b) fun ⟨t, ht, hc⟩ => hi.pal t i b ht hc (hall t (hT2 t ht))
  refine ⟨⟨?_, hi.hr.within hw, by rw [hn]; exact hi.free, hi.defers, hi.size⟩, hi.ext.less' hw, hi.keep, by rw [hn]; exact hi.next⟩
  intro s v hs
  rw [hch.env] at hs
  rcases envOf_get T e0 s v hs with ⟨u, hu, hd, hv⟩ | ⟨h3, h4⟩
  · obtain ⟨v', h5, h6⟩ := hi.tin u s hu (hall u hu) hd; exact ⟨v', h5, hv ▸ h6⟩
  · exact hi.tof s v h3 fun u hu _ => h4 u hu

/-- an operation that moves no bound: the memory is as it was -/
theorem Inv.still (hst : Static P k ops T) (hr0 : HR P ρ0 M0.get w0) {S : Nat → Prop} {a : Act} {w w' : World} {T1 T2 : List Tk} {ρ : Emb} {p : Mm} {B : Mem}
    (hi : Inv P k e0 M0 ρ0 w0 ds T S a w T1 T2 ρ p B) {t : Tk} (htT : t ∈ T) (hno : ¬ S t.i) (hne : isEff t.o = false) (hna : ∀ i b, t.cls ≠ .alloc i b)
    (hr : HR P ρ p w') (he : Ext ρ p w ρ p w') {v' : Value} (hv : VR P ρ t.v v') :
    Inv P k e0 M0 ρ0 w0 ds T (fun j => j = t.i ∨ S j) (a.put t.o.dst v') w' T1 T2 ρ p B where
  cut := hi.cut
  last := hi.last
  base := hi.base
  done := fun u hu h => .inr (hi.done u hu h)
  open_ := fun u hu h hS => by
    have huT : u ∈ T := by rw [hi.cut]; exact List.mem_append_right _ hu
    rcases hS with hS | hS
    · rw [hst.eq huT htT hS, hne] at h; cases h
    · exact hi.open_ u hu h hS
  hr := hr
  free := hi.free
  pin := hi.pin
  pal := fun u i b hu hc hS => by
    have huT : u ∈ T := by rw [hi.cut]; exact List.mem_append_right _ hu
    rcases hS with hS | hS
    · rw [hst.eq huT htT hS] at hc; exact absurd hc (hna i b)
    · exact hi.pal u i b hu hc hS
  pof := fun i b h => (hi.pof i b h).imp id fun ⟨u, hu, hc, hS⟩ => ⟨u, hu, hc, .inr hS⟩
  un := fun u i b hu hc hS => hi.un u i b hu hc fun h => hS (.inr h)
  res := hi.res
  tin := tin_step hst htT hno hi.size (Sub.refl ρ) hv hi.tin
  tof := tof_step hst htT (Sub.refl ρ) hi.tof
  ext := hi.ext.trans hr0 he
  keep := hi.keep
  next := hi.next
  defers := (put_defers' _ _ _).trans hi.defers
  size := (put_size _ _ _).trans hi.size

theorem Inv.alloc (hst : Static P k ops T) (hids : ∀ t u i b b', t ∈ T → u ∈ T → t.cls = .alloc i b → u.cls = .alloc i b' → t.i = u.i) (hr0 : HR P ρ0 M0.get w0) {S : Nat → Prop} {a : Act} {w w' : World} {T1 T2 : List Tk} {ρ : Emb} {p : Mm} {B : Mem}
    (hi : Inv P k e0 M0 ρ0 w0 ds T S a w T1 T2 ρ p B) {t : Tk} (htT : t ∈ T2) (hno : ¬ S t.i) (hne : isEff t.o = false) {id : Nat} {b : Blk} (hc : t.cls = .alloc id b) {f : Inf}
    (hr : HR P (updE ρ id f) (updM p id b) w') (he : Ext ρ p w (updE ρ id f) (updM p id b) w') {v' : Value} (hv : VR P (updE ρ id f) t.v v') :
    Inv P k e0 M0 ρ0 w0 ds T (fun j => j = t.i ∨ S j) (a.put t.o.dst v') w' T1 T2 (updE ρ id f) (updM p id b) B := by
  have hT2 : ∀ u, u ∈ T2 → u ∈ T := fun u hu => by rw [hi.cut]; exact List.mem_append_right _ hu
  have hnone : ρ id = none := hi.un t id b htT hc hno
  have hsub : Sub ρ (updE ρ id f) := fun i g hg => by
    unfold updE
    by_cases h : i = id
    · subst h; rw [hnone] at hg; cases hg
    · simp [h, hg]
  obtain ⟨hlt, hBn⟩ := hi.res t id b htT hc
  exact {
    cut := hi.cut
    last := hi.last
    base := hi.base
    done := fun u hu h => .inr (hi.done u hu h)
    open_ := fun u hu h hS => by
      rcases hS with hS | hS
      · rw [hst.eq (hT2 u hu) (hT2 t htT) hS, hne] at h; cases h
      · exact hi.open_ u hu h hS
    hr := hr
    free := fun i hi' => by
      unfold updE
      have : i ≠ id := by omega
      simp [this, hi.free i hi']
    pin := fun i c h => by
      unfold updM
      have : i ≠ id := by rintro rfl; rw [hBn] at h; cases h
      simp [this, hi.pin i c h]
    pal := fun u i c hu hcu hS => by
      unfold updM
      rcases hS with hS | hS
      · have := hst.eq (hT2 u hu) (hT2 t htT) hS
        subst this
        rw [hc] at hcu; cases hcu; simp
      · have : i ≠ id := by
          rintro rfl
          have := hids u t i c b (hT2 u hu) (hT2 t htT) hcu hc
          exact hno (this ▸ hS)
        simp [this, hi.pal u i c hu hcu hS]
    pof := fun i c h => by
      unfold updM at h
      by_cases hii : i = id
      · subst hii; simp at h; subst h; exact .inr ⟨t, htT, hc, .inl rfl⟩
      · simp [hii] at h; exact (hi.pof i c h).imp (fun h => h) fun ⟨u, hu, hcu, hS⟩ => ⟨u, hu, hcu, .inr hS⟩
    un := fun u i c hu hcu hS => by
      unfold updE
      have : i ≠ id := by
        rintro rfl
        exact hS (.inl (hids u t i c b (hT2 u hu) (hT2 t htT) hcu hc))
      simp [this, hi.un u i c hu hcu fun h => hS (.inr h)]
    res := hi.res
    tin := tin_step hst (hT2 t htT) hno hi.size hsub hv hi.tin
    tof := tof_step hst (hT2 t htT) hsub hi.tof
    ext := hi.ext.trans hr0 he
    keep := fun i h1 h2 h3 => by
      unfold updE
      have : i ≠ id := by rintro rfl; exact h3 t b (hT2 t htT) hc
      simp [this, hi.keep i h1 h2 h3]
    next := hi.next
    defers := (put_defers' _ _ _).trans hi.defers
    size := (put_size _ _ _).trans hi.size }
end
end Go.Proofs.YtopblipficpilaaGreatDoor.AY

/- The layer, fifth part: regions: effects, the whole, and a region's rule. -/
namespace Go.Proofs.YtopblipficpilaaGreatDoor.AY
open Go
set_option linter.unusedVariables false
set_option linter.unusedSimpArgs false
section
variable {P : Program} {ops : Array Oper} {k : Nat} {e0 : Env} {M0 : Mem} {ρ0 : Emb} {w0 : World} {ds : List Deferred} {T : List Tk}

theorem alloc_isAlloc {t : Tk} (h : t.Ok P ops) {i : Nat} {b : Blk} (hc : t.cls = .alloc i b) : isAlloc P t.o = true := by
  have := h.cls; rw [hc] at this; exact this.2.2.1

theorem Inv.upto (hst : Static P k ops T) (hok : ∀ t, t ∈ T → t.Ok P ops) {e' : Env} {M' : Mem} (hch : Chain T e0 M0 e' M') {S : Nat → Prop} (hcl : ∀ j, S j → ∀ d, Direct ops d j → S d)
    {a : Act} {w : World} {T1 T2 : List Tk} {ρ : Emb} {p : Mm} {B : Mem} (hi : Inv P k e0 M0 ρ0 w0 ds T S a w T1 T2 ρ p B) {t : Tk} (htT : t ∈ T) (hno : ¬ S t.i) (hd : ∀ d, Direct ops d t.i → S d) (hE : isEff t.o = true) :
    ∃ U C, T2 = U ++ t :: C ∧ (∀ u, u ∈ U → isEff u.o = false) ∧ (∀ u, u ∈ U → isAlloc P u.o = true → S u.i) ∧ t.pre.next = B.next ∧ Within t.pre.get p ∧
      (∀ i b, t.pre.get i = some b → B.get i = some b ∨ ∃ u, u ∈ U ∧ u.cls = .alloc i b) ∧ (∀ i, t.pre.get i = none → B.get i = none ∧ ∀ u b, u ∈ U → u.cls ≠ .alloc i b) := by
  have ht2 : t ∈ T2 := by
    have := htT; rw [hi.cut] at this
    exact (List.mem_append.1 this).resolve_left fun h => hno (hi.done t h (.inl hE))
  obtain ⟨U, C, hU⟩ := List.append_of_mem ht2
  have hcutT : T = (T1 ++ U) ++ t :: C := by rw [hi.cut, hU]; simp
  have hmem : ∀ u, u ∈ U → u ∈ T2 := fun u hu => by rw [hU]; exact List.mem_append_left _ hu
  have hmemT : ∀ u, u ∈ U → u ∈ T := fun u hu => by rw [hi.cut]; exact List.mem_append_right _ (hmem u hu)
  have hS : ∀ u, u ∈ U → isEff u.o = true ∨ isAlloc P u.o = true → S u.i := fun u hu h =>
    anc_done hcl (hst.effs (T1 ++ U) t C hcutT hE u (List.mem_append_right _ hu) h) hd
  have hne : ∀ u, u ∈ U → isEff u.o = false := fun u hu => by
    cases h : isEff u.o with
    | false => rfl
    | true => exact absurd (hS u hu (.inl h)) (hi.open_ u (hmem u hu) h)
  have hch' := hch
  rw [hi.cut] at hch'
  obtain ⟨M₁, h1, h2⟩ := hch'.split
  have hB : M₁ = B := by rw [h1.bound, hi.base]
  subst hB
  rw [hU] at h2
  obtain ⟨M₂, h3, h4⟩ := h2.split
  have hpre : t.pre = M₂ := h4.2.1
  obtain ⟨q1, q2, q3⟩ := h3.quiet (fun u hu => hok u (hmemT u hu)) hne
  rw [← hpre] at q1 q2 q3
  refine ⟨U, C, hU, hne, fun u hu h => hS u hu (.inr h), q1, fun i b hb => ?_, q2, q3⟩
  rcases q2 i b hb with h | ⟨u, hu, hc⟩
  · exact hi.pin i b h
  · exact hi.pal u i b (hmem u hu) hc (hS u hu (.inr (alloc_isAlloc (hok u (hmemT u hu)) hc)))

theorem Inv.effSkip (hst : Static P k ops T) (hids : ∀ t u i b b', t ∈ T → u ∈ T → t.cls = .alloc i b → u.cls = .alloc i b' → t.i = u.i) (hok : ∀ t, t ∈ T → t.Ok P ops) (hr0 : HR P ρ0 M0.get w0)
    {S : Nat → Prop} {a : Act} {w : World} {T1 T2 : List Tk} {ρ : Emb} {p : Mm} {B : Mem} (hi : Inv P k e0 M0 ρ0 w0 ds T S a w T1 T2 ρ p B) {t : Tk} (htT : t ∈ T) (hno : ¬ S t.i) (hE : isEff t.o = true)
    (hpost : t.post = t.pre) (hv : t.v = undef) {U C : List Tk} (hU : T2 = U ++ t :: C) (hne : ∀ u, u ∈ U → isEff u.o = false) (hal : ∀ u, u ∈ U → isAlloc P u.o = true → S u.i) (hnx : t.pre.next = B.next) (hwi : Within t.pre.get p)
    (hq2 : ∀ i b, t.pre.get i = some b → B.get i = some b ∨ ∃ u, u ∈ U ∧ u.cls = .alloc i b) (hq3 : ∀ i, t.pre.get i = none → B.get i = none ∧ ∀ u b, u ∈ U → u.cls ≠ .alloc i b) :
    Inv P k e0 M0 ρ0 w0 ds T (fun j => j = t.i ∨ S j) (a.put t.o.dst undef) w (T1 ++ U ++ [t]) C ρ p t.post := by
  have hcutT : T = (T1 ++ U ++ [t]) ++ C := by rw [hi.cut, hU]; simp
  have h2T : ∀ u, u ∈ T2 → u ∈ T := fun u hu => by rw [hi.cut]; exact List.mem_append_right _ hu
  have hC2 : ∀ u, u ∈ C → u ∈ T2 := fun u hu => by rw [hU]; simp [hu]
  have hU2 : ∀ u, u ∈ U → u ∈ T2 := fun u hu => by rw [hU]; simp [hu]
  have hCne : ∀ u, u ∈ C → u.i ≠ t.i := fun u hu h => by
    obtain ⟨C1, C2, hC⟩ := List.append_of_mem hu
    exact hst.nodup (T1 ++ U ++ [t] ++ C1) u C2 (by rw [hcutT, hC]; simp) t (by simp) h.symm
  have hCpre : ∀ u i b, u ∈ C → u.cls = .alloc i b → t.pre.get i = none := fun u i b hu hc => by
    cases hg : t.pre.get i with
    | none => rfl
    | some c =>
      rcases hq2 i c hg with h | ⟨x, hx, hxc⟩
      · have := (hi.res u i b (hC2 u hu) hc).2; rw [h] at this; cases this
      · have := hids x u i c b (h2T x (hU2 x hx)) (h2T u (hC2 u hu)) hxc hc
        obtain ⟨C1, C2, hC⟩ := List.append_of_mem hu
        exact absurd this (hst.nodup (T1 ++ U ++ [t] ++ C1) u C2 (by rw [hcutT, hC]; simp) x (by simp [hx]))
  exact {
    cut := hcutT
    last := lastEff_snoc T1 U hE
    base := (bound_snoc M0 (T1 ++ U) t).symm
    done := fun u hu h => by
      rcases List.mem_append.1 hu with hu | hu
      · rcases List.mem_append.1 hu with hu | hu
        · exact .inr (hi.done u hu h)
        · exact .inr (h.elim (fun h => by rw [hne u hu] at h; cases h) (hal u hu))
      · exact .inl (by rw [List.mem_singleton.1 hu])
    open_ := fun u hu h hS => by
      rcases hS with hS | hS
      · exact hCne u hu hS
      · exact hi.open_ u (hC2 u hu) h hS
    hr := hi.hr
    free := by rw [hpost, hnx]; exact hi.free
    pin := fun i b h => by rw [hpost] at h; exact hwi i b h
    pal := fun u i b hu hc hS => hi.pal u i b (hC2 u hu) hc (hS.resolve_left (hCne u hu))
    pof := fun i b h => by
      rw [hpost]
      cases hg : t.pre.get i with
      | some c => have := hwi i c hg; rw [h] at this; cases this; exact .inl rfl
      | none =>
        obtain ⟨h1, h2⟩ := hq3 i hg
        rcases hi.pof i b h with h | ⟨u, hu, hc, hS⟩
        · rw [h1] at h; cases h
        · rw [hU] at hu
          rcases List.mem_append.1 hu with hu | hu
          · exact absurd hc (h2 u b hu)
          · rcases List.mem_cons.1 hu with rfl | hu
            · exact absurd hS hno
            · exact .inr ⟨u, hu, hc, .inr hS⟩
    un := fun u i b hu hc hS => hi.un u i b (hC2 u hu) hc fun h => hS (.inr h)
    res := fun u i b hu hc => ⟨by rw [hpost, hnx]; exact (hi.res u i b (hC2 u hu) hc).1, by rw [hpost]; exact hCpre u i b hu hc⟩
    tin := tin_step hst htT hno hi.size (Sub.refl ρ) (by rw [hv]; exact VR.undef P ρ) hi.tin
    tof := tof_step hst htT (Sub.refl ρ) hi.tof
    ext := hi.ext
    keep := hi.keep
    next := by rw [hpost, hnx]; exact hi.next
    defers := (put_defers' _ _ _).trans hi.defers
    size := (put_size _ _ _).trans hi.size }

theorem Inv.eff (hst : Static P k ops T) (hids : ∀ t u i b b', t ∈ T → u ∈ T → t.cls = .alloc i b → u.cls = .alloc i b' → t.i = u.i) (hok : ∀ t, t ∈ T → t.Ok P ops) (hr0 : HR P ρ0 M0.get w0)
    {S : Nat → Prop} {a : Act} {w w' : World} {T1 T2 : List Tk} {ρ ρ' : Emb} {p : Mm} {B : Mem} (hi : Inv P k e0 M0 ρ0 w0 ds T S a w T1 T2 ρ p B) {t : Tk} (htT : t ∈ T) (hno : ¬ S t.i) (hE : isEff t.o = true) (hcl : t.cls = .eff)
    {U C : List Tk} (hU : T2 = U ++ t :: C) (hne : ∀ u, u ∈ U → isEff u.o = false) (hal : ∀ u, u ∈ U → isAlloc P u.o = true → S u.i) (hnx : t.pre.next = B.next) (hwi : Within t.pre.get p)
    (hq2 : ∀ i b, t.pre.get i = some b → B.get i = some b ∨ ∃ u, u ∈ U ∧ u.cls = .alloc i b) (hq3 : ∀ i, t.pre.get i = none → B.get i = none ∧ ∀ u b, u ∈ U → u.cls ≠ .alloc i b)
    {v' : Value} (hv : VR P ρ' t.v v') (hr : HR P ρ' t.post.get w') (hf : Free ρ' t.post.next) (hg : Grow ρ t.pre w ρ' t.post w') :
    Inv P k e0 M0 ρ0 w0 ds T (fun j => j = t.i ∨ S j) (a.put t.o.dst v') w' (T1 ++ U ++ [t]) C ρ' (join t.pre.get t.post.get p) t.post := by
  obtain ⟨hr', he'⟩ := frame hi.hr hwi hg.ext hr
  have hcutT : T = (T1 ++ U ++ [t]) ++ C := by rw [hi.cut, hU]; simp
  have h2T : ∀ u, u ∈ T2 → u ∈ T := fun u hu => by rw [hi.cut]; exact List.mem_append_right _ hu
  have hC2 : ∀ u, u ∈ C → u ∈ T2 := fun u hu => by rw [hU]; simp [hu]
  have hU2 : ∀ u, u ∈ U → u ∈ T2 := fun u hu => by rw [hU]; simp [hu]
  have hCne : ∀ u, u ∈ C → u.i ≠ t.i := fun u hu h => by
    obtain ⟨C1, C2, hC⟩ := List.append_of_mem hu
    exact hst.nodup (T1 ++ U ++ [t] ++ C1) u C2 (by rw [hcutT, hC]; simp) t (by simp) h.symm
  have hCpre : ∀ u i b, u ∈ C → u.cls = .alloc i b → t.pre.get i = none := fun u i b hu hc => by
    cases hg : t.pre.get i with
    | none => rfl
    | some c =>
      rcases hq2 i c hg with h | ⟨x, hx, hxc⟩
      · have := (hi.res u i b (hC2 u hu) hc).2; rw [h] at this; cases this
      · have := hids x u i c b (h2T x (hU2 x hx)) (h2T u (hC2 u hu)) hxc hc
        obtain ⟨C1, C2, hC⟩ := List.append_of_mem hu
        exact absurd this (hst.nodup (T1 ++ U ++ [t] ++ C1) u C2 (by rw [hcutT, hC]; simp) x (by simp [hx]))
  -- a place that the rest holds beside what the effect saw
  have rest : ∀ i b, t.pre.get i = none → p i = some b → (∃ u, u ∈ C ∧ u.cls = .alloc i b ∧ S u.i) ∧ ρ i ≠ none := fun i b hg h => by
    obtain ⟨h1, h2⟩ := hq3 i hg
    obtain ⟨f, hf', _⟩ := hi.hr.one i b h
    refine ⟨?_, by rw [hf']; simp⟩
    rcases hi.pof i b h with h | ⟨u, hu, hc, hS⟩
    · rw [h1] at h; cases h
    · rw [hU] at hu
      rcases List.mem_append.1 hu with hu | hu
      · exact absurd hc (h2 u b hu)
      · rcases List.mem_cons.1 hu with rfl | hu
        · exact absurd hS hno
        · exact ⟨u, hu, hc, hS⟩
  have postnone : ∀ i, t.pre.get i = none → ρ i ≠ none → t.post.get i = none := fun i hg hρ => by
    cases hp : t.post.get i with
    | none => rfl
    | some c =>
      rcases hg' : hg with _
      rcases (Grow.ext ‹_›).ids i c hp with ⟨b, hb, _⟩ | h
      · rw [hg] at hb; cases hb
      · exact absurd h hρ
  exact {
    cut := hcutT
    last := lastEff_snoc T1 U hE
    base := (bound_snoc M0 (T1 ++ U) t).symm
    done := fun u hu h => by
      rcases List.mem_append.1 hu with hu | hu
      · rcases List.mem_append.1 hu with hu | hu
        · exact .inr (hi.done u hu h)
        · exact .inr (h.elim (fun h => by rw [hne u hu] at h; cases h) (hal u hu))
      · exact .inl (by rw [List.mem_singleton.1 hu])
    open_ := fun u hu h hS => by
      rcases hS with hS | hS
      · exact hCne u hu hS
      · exact hi.open_ u (hC2 u hu) h hS
    hr := hr'
    free := hf
    pin := fun i b h => by
      unfold join
      cases hg1 : t.pre.get i with
      | some c => simpa using h
      | none =>
        cases hp : p i with
        | none => simpa using h
        | some c =>
          have := postnone i hg1 (rest i c hg1 hp).2
          rw [h] at this; cases this
    pal := fun u i b hu hc hS => by
      have h1 := hi.pal u i b (hC2 u hu) hc (hS.resolve_left (hCne u hu))
      unfold join
      simp [hCpre u i b hu hc, h1]
    pof := fun i b h => by
      rcases join_some h with ⟨h1, h2⟩ | ⟨h1, _⟩
      · obtain ⟨⟨u, hu, hc, hS⟩, _⟩ := rest i b h1 h2
        exact .inr ⟨u, hu, hc, .inr hS⟩
      · exact .inl h1
    un := fun u i b hu hc hS => by
      refine hg.keep i ?_ (hi.un u i b (hC2 u hu) hc fun h => hS (.inr h))
      rw [hnx]; exact (hi.res u i b (hC2 u hu) hc).1
    res := fun u i b hu hc => by
      have hlt := (hi.res u i b (hC2 u hu) hc).1
      refine ⟨by have := hg.next; omega, ?_⟩
      cases hρ : ρ i with
      | some f => exact postnone i (hCpre u i b hu hc) (by rw [hρ]; simp)
      | none =>
        cases hp : t.post.get i with
        | none => rfl
        | some c =>
          obtain ⟨f, hf', _⟩ := hr.one i c hp
          have := hg.keep i (by rw [hnx]; exact hlt) hρ
          rw [hf'] at this; cases this
    tin := tin_step hst htT hno hi.size hg.ext.sub hv hi.tin
    tof := tof_step hst htT hg.ext.sub hi.tof
    ext := hi.ext.trans hr0 he'
    keep := fun i h1 h2 h3 => hg.keep i (by have := hi.next; omega) (hi.keep i h1 h2 h3)
    next := by have := hi.next; have := hg.next; omega
    defers := (put_defers' _ _ _).trans hi.defers
    size := (put_size _ _ _).trans hi.size }
end
end Go.Proofs.YtopblipficpilaaGreatDoor.AY

/- The layer, sixth part: a region's rule, in any order and in the one order. -/
namespace Go.Proofs.YtopblipficpilaaGreatDoor.AY
open Go
set_option linter.unusedVariables false
set_option linter.unusedSimpArgs false
section
variable {P : Program} {ops : Array Oper} {k : Nat} {e0 : Env} {M0 : Mem} {ρ0 : Emb} {w0 : World} {ds : List Deferred} {r : Option Nat} {T : List Tk}

def undone (listed : Array Bool) (t : Tk) : Bool := !listed.getD t.i false

theorem undone_less (listed : Array Bool) {t : Tk} (ht : t ∈ T) (h : undone listed t = true) (hlt : t.i < listed.size) :
    T.countP (undone (listed.setIfInBounds t.i true)) < T.countP (undone listed) := by
  obtain ⟨A, C, rfl⟩ := List.append_of_mem ht
  have mono : ∀ L : List Tk, L.countP (undone (listed.setIfInBounds t.i true)) ≤ L.countP (undone listed) := fun L =>
    List.countP_mono_left fun u hu h => by
      unfold undone at *
      simp only [Bool.not_eq_true'] at *
      cases hl : listed.getD u.i false with
      | false => rfl
      | true => rw [getD_set_true hl] at h; cases h
  have h1 : undone (listed.setIfInBounds t.i true) t = false := by unfold undone; simp [hlt]
  rw [List.countP_append, List.countP_append, List.countP_cons_of_pos h, List.countP_cons_of_neg (by simp [h1])]
  have := mono A
  have := mono C
  omega

theorem S_set (listed : Array Bool) {i : Nat} (hlt : i < listed.size) (j : Nat) : ((listed.setIfInBounds i true).getD j false = true) = (j = i ∨ listed.getD j false = true) := by
  apply propext
  by_cases h : j = i
  · subst h; simp [hlt]
  · rw [getD_set_ne false (Ne.symm h)]; simp [h]

theorem region_any (hst : Static P k ops T) (hids : ∀ t u i b b', t ∈ T → u ∈ T → t.cls = .alloc i b → u.cls = .alloc i b' → t.i = u.i) (hok : ∀ t, t ∈ T → t.Ok P ops)
    {e' : Env} {M' : Mem} (hch : Chain T e0 M0 e' M') {am : Nat → Nat → Bool} (ham : ∀ i j, am i j = true → Anc ops i j) (hrd : Reads P M0 T am) (hr0 : HR P ρ0 M0.get w0) {Q : Exit → Act → World → Prop}
    (hQ : ∀ ρ a w, Cur0 P k ds ρ e' M' a w → Ext ρ0 M0.get w0 ρ M'.get w → (∀ i, i < M0.next → ρ0 i = none → (∀ t b, t ∈ T → t.cls ≠ .alloc i b) → ρ i = none) → M0.next ≤ M'.next → Q .normal a w) :
    ∀ (fuel : Nat) (listed : Array Bool) (a : Act) (w : World) T1 T2 ρ p B, listed.size = ops.size → (∀ j, listed.getD j false = true → ∀ d, Direct ops d j → listed.getD d false = true) → T.countP (undone listed) ≤ fuel →
      Inv P k e0 M0 ρ0 w0 ds T (fun j => listed.getD j false = true) a w T1 T2 ρ p B → wpAnyIn (Fw r) 0 P .any ops Q fuel listed a w := by
  intro fuel
  have fin : ∀ (listed : Array Bool) (a : Act) (w : World) T1 T2 ρ p B, (∀ t, t ∈ T → listed.getD t.i false = true) → Inv P k e0 M0 ρ0 w0 ds T (fun j => listed.getD j false = true) a w T1 T2 ρ p B → Q .normal a w := by
    intro listed a w T1 T2 ρ p B hall hi
    obtain ⟨h1, h2, h3, h4⟩ := hi.done_all hok hch hall
    exact hQ ρ a w h1 h2 h3 h4
  have noready : ∀ (listed : Array Bool), listed.size = ops.size → (∀ t, t ∈ T → listed.getD t.i false = true) → Region.ready .any ops listed = [] := by
    intro listed hs hall
    cases hr : Region.ready .any ops listed with
    | nil => rfl
    | cons j l =>
      obtain ⟨h0, o, ho, _⟩ := mem_ready.1 (show j ∈ Region.ready .any ops listed by rw [hr]; simp)
      have hlt : j < ops.size := (Array.getElem?_eq_some_iff.1 ho).1
      obtain ⟨t, ht, rfl⟩ := hst.all j hlt
      have := hall t ht
      have h2 : t.i < listed.size := by omega
      simp [h2] at h0 this
      rw [h0] at this; cases this
  have allof : ∀ (listed : Array Bool), listed.size = ops.size → Region.ready .any ops listed = [] → ∀ t, t ∈ T → listed.getD t.i false = true := by
    intro listed hs hr t ht
    refine Classical.byContradiction fun hn => ?_
    obtain ⟨A, u, C, hT, hu, hA⟩ := first_of (T := T) (p := fun t => ¬ listed.getD t.i false = true) ⟨t, ht, hn⟩
    have huT : u ∈ T := by rw [hT]; simp
    have hlt : u.i < listed.size := by have := hst.lt u huT; omega
    have : u.i ∈ Region.ready .any ops listed := mem_ready.2 ⟨by simp [hlt] at hu ⊢; exact hu, u.o, (hok u huT).op, fun e he hb => by
      obtain ⟨x, hx, hxi⟩ := hst.topo A u C hT e.on ⟨u.o, (hok u huT).op, e, he, hb, rfl⟩
      have := hA x hx
      rw [hxi] at this
      exact Classical.not_not.1 this⟩
    rw [hr] at this; cases this
  induction fuel with
  | zero =>
    intro listed a w T1 T2 ρ p B hs hcl hc hi
    have hall : ∀ t, t ∈ T → listed.getD t.i false = true := fun t ht => by
      have h0 : T.countP (undone listed) = 0 := by omega
      have := List.countP_eq_zero.1 h0 t ht
      simpa [undone] using this
    exact ⟨noready listed hs hall, fin listed a w T1 T2 ρ p B hall hi⟩
  | succ fuel ih =>
    intro listed a w T1 T2 ρ p B hs hcl hc hi
    refine ⟨fun hr => fin listed a w T1 T2 ρ p B (allof listed hs hr) hi, fun j hj => ?_⟩
    obtain ⟨h0, o, ho, hdir⟩ := mem_ready.1 hj
    have hlt : j < ops.size := (Array.getElem?_eq_some_iff.1 ho).1
    obtain ⟨t, htT, rfl⟩ := hst.all j hlt
    have hto : t.o = o := by have := (hok t htT).op; rw [ho] at this; cases this; rfl
    subst hto
    have hl2 : t.i < listed.size := by omega
    have hno : ¬ listed.getD t.i false = true := by simp [hl2] at h0 ⊢; exact h0
    have hd : ∀ d, Direct ops d t.i → listed.getD d false = true := by
      rintro d ⟨o, ho', e, he, hb, rfl⟩
      rw [ho] at ho'; cases ho'
      exact hdir e he hb
    obtain ⟨A, C, hT⟩ := List.append_of_mem htT
    have hch' := hch
    rw [hT] at hch'
    obtain ⟨M₁, _, h2⟩ := hch'.split
    have henv : t.env = envOf e0 A := h2.1
    have hseen : ∀ s, looks ops t.o s → ∀ v, t.env.get s = some v → ∃ v', a.tmps[s]? = some v' ∧ VR P ρ v v' := fun s hl v hv =>
      seen_at hst hcl hT hno hd hi.tin hi.tof hl (henv ▸ hv)
    have hopnd : (∀ x, x ∈ t.o.op.operands → ∃ v, aev t.env x = some v) → Opnds P ρ (aev t.env) t.o a := by
      intro hall x hx
      obtain ⟨v, hv⟩ := hall x hx
      refine ⟨v, hv, ?_⟩
      cases x with
      | tmp s =>
        obtain ⟨v', h1, h2⟩ := hseen s (.inl hx) v hv
        simpa [Act.eval, h1] using h2
      | const c =>
        simp only [aev] at hv
        cases hp : plain c with
        | false => simp [hp] at hv
        | true => simp [hp] at hv; subst hv; exact plain_self hp
      | func f => simp only [aev, Option.some.injEq] at hv; subst hv; exact VR.fn _
      | global g => simp [aev] at hv
    have hok' := (hok t htT).cls
    have hcount : T.countP (undone (listed.setIfInBounds t.i true)) ≤ fuel := by
      have := undone_less (T := T) listed htT (by simpa [undone] using hno) hl2
      omega
    have hcl' : ∀ j, (listed.setIfInBounds t.i true).getD j false = true → ∀ d, Direct ops d j → (listed.setIfInBounds t.i true).getD d false = true := by
      intro j hj d hdj
      rw [S_set listed hl2] at hj ⊢
      rcases hj with rfl | hj
      · exact .inr (hd d hdj)
      · exact .inr (hcl j hj d hdj)
    have hset : (fun j => (listed.setIfInBounds t.i true).getD j false = true) = (fun j => j = t.i ∨ listed.getD j false = true) := funext fun j => S_set listed hl2 j
    have go : ∀ a' w' T1' T2' ρ' p' B', Inv P k e0 M0 ρ0 w0 ds T (fun j => j = t.i ∨ listed.getD j false = true) a' w' T1' T2' ρ' p' B' → wpAnyIn (Fw r) 0 P .any ops Q fuel (listed.setIfInBounds t.i true) a' w' :=
      fun a' w' T1' T2' ρ' p' B' hi' => ih (listed.setIfInBounds t.i true) a' w' T1' T2' ρ' p' B' (by simp [hs]) hcl' hcount (by rw [hset]; exact hi')
    unfold wpOpIn
    simp only [ho]
    cases hE : isEff t.o with
    | true =>
      obtain ⟨U, C2, hU, hne, hal, hnx, hwi, hq2, hq3⟩ := hi.upto hst hok hch hcl htT hno hd hE
      cases hc : t.cls with
      | skip =>
        rw [hc] at hok'; obtain ⟨hw, hv, hp⟩ := hok'
        simp only [want_at hseen hw, Bool.false_eq_true, if_false]
        refine ⟨fun _ _ => trivial, ?_⟩
        exact go _ _ _ _ _ _ _ (hi.effSkip hst hids hok hr0 htT hno hE hp hv hU hne hal hnx hwi hq2 hq3)
      | eff =>
        rw [hc] at hok'; obtain ⟨hw, hall, _, he⟩ := hok'
        simp only [want_at hseen hw, if_true]
        refine (he.in_ r ρ a w _ Q (hopnd hall) (hi.hr.within hwi) (by rw [hnx]; exact hi.free) fun v' ρ' w' hv hr hf hg => ?_)
        exact go _ _ _ _ _ _ _ (hi.eff hst hids hok hr0 htT hno hE hc hU hne hal hnx hwi hq2 hq3 hv hr hf hg)
      | pure => exact absurd ((hok t htT).kind hE) (by rw [hc]; simp)
      | read => exact absurd ((hok t htT).kind hE) (by rw [hc]; simp)
      | alloc id b => exact absurd ((hok t htT).kind hE) (by rw [hc]; simp)
    | false =>
      cases hc : t.cls with
      | skip =>
        rw [hc] at hok'; obtain ⟨hw, hv, hp⟩ := hok'
        simp only [want_at hseen hw, Bool.false_eq_true, if_false]
        refine ⟨fun _ _ => trivial, ?_⟩
        exact go _ _ _ _ _ _ _ (hi.still hst hr0 htT hno hE (by rw [hc]; simp) hi.hr (Ext.refl _ _ _) (by rw [hv]; exact VR.undef P ρ))
      | eff => rw [hc] at hok'; rw [hok'.2.2.1] at hE; cases hE
      | pure =>
        rw [hc] at hok'; obtain ⟨hw, hall, hst', hp⟩ := hok'
        simp only [want_at hseen hw, if_true]
        exact ((hst' p).in_ r ρ a w _ Q (hopnd hall) hi.hr fun v' w' hv hr he => go _ _ _ _ _ _ _ (hi.still hst hr0 htT hno hE (by rw [hc]; simp) hr he hv))
      | read =>
        rw [hc] at hok'; obtain ⟨hw, hall, hp⟩ := hok'
        simp only [want_at hseen hw, if_true]
        obtain ⟨m, hm, hs1⟩ := hrd t htT hc T1 T2 hi.cut hi.last
          (fun u hu hE' => by
            cases hm : am t.i u.i with
            | false => rfl
            | true => exact absurd (anc_done hcl (ham _ _ hm) (hcl _ (hi.done u hu (.inl hE')))) hno)
          (fun u hu hE' => by
            cases hm : am u.i t.i with
            | false => rfl
            | true => exact absurd (anc_done hcl (ham _ _ hm) hd) (hi.open_ u hu hE'))
        have hwi : Within m p := fun i b h => (hm i b h).elim (fun h => hi.pin i b (by rw [hi.base]; exact h)) fun ⟨u, hu, hc, ha⟩ => hi.pal u i b hu hc (anc_done hcl (ham _ _ ha) hd)
        exact ((hs1.more hwi).in_ r ρ a w _ Q (hopnd hall) hi.hr fun v' w' hv hr he => go _ _ _ _ _ _ _ (hi.still hst hr0 htT hno hE (by rw [hc]; simp) hr he hv))
      | alloc id b =>
        rw [hc] at hok'; obtain ⟨hw, hall, hal, ⟨mk, hv, hA⟩, hp⟩ := hok'
        simp only [want_at hseen hw, if_true]
        have ht2 : t ∈ T2 := by
          have := htT; rw [hi.cut] at this
          exact (List.mem_append.1 this).resolve_left fun h => hno (hi.done t h (.inr hal))
        refine (hA.in_ r ρ p a w id _ Q (hopnd hall) hi.hr (hi.un t id b ht2 hc hno) fun v' f w' hv' hr he => ?_)
        exact go _ _ _ _ _ _ _ (hi.alloc hst hids hr0 ht2 hno hE hc hr he (hv ▸ hv'))
end

/-- a region, in whichever order -/
theorem ARun.region_any {P : Program} {r : Option Nat} {k id : Nat} {ops : Array Oper} (hmo : P.follows .mixedOrders = true) {s : St} {nA : Nat} {T : List Tk} {e' : Env} {M' : Mem}
    (hst : Static P k ops T) (hids : ∀ t u i b b', t ∈ T → u ∈ T → t.cls = .alloc i b → u.cls = .alloc i b' → t.i = u.i) (hres : ∀ t i b, t ∈ T → t.cls = .alloc i b → s.mem.next ≤ i ∧ i < s.mem.next + nA)
    (hok : ∀ t, t ∈ T → t.Ok P ops) (hch : Chain T s.env (s.mem.bump nA) e' M') {am : Nat → Nat → Bool} (ham : ∀ i j, am i j = true → Anc ops i j) (hrd : Reads P (s.mem.bump nA) T am) :
    ARun P r k (.region id ops true) s .normal ⟨e', M', s.dfr⟩ := by
  intro n₀ ρ a w hc hle
  refine wpIn_region_any hmo ?_
  have hw' : ∀ {ρ m}, HR P ρ m w → HR P ρ m { w with drawn := w.drawn + 1 } := fun h => ⟨fun i b hi => let ⟨f, hf, ho⟩ := h.one i b hi; ⟨f, hf, ⟨ho.elem, ho.row, ho.glob⟩⟩, h.apart⟩
  have hres' : ∀ t i b, t ∈ T → t.cls = .alloc i b → ρ i = none := fun t i b ht hcl => hc.free i (hres t i b ht hcl).1
  refine AY.region_any (ds := a.defers) (ρ0 := ρ) (w0 := w) (M0 := s.mem.bump nA) hst hids hok hch ham hrd hc.hr ?_ ops.size (Array.replicate ops.size false) a _ [] T ρ s.mem.get (s.mem.bump nA) (by simp) ?_ ?_ ?_
  · intro ρ' a' w' hc' he hk hn
    refine ⟨rfl, ρ', hc'.cur hc.hr hc.defers he, he, fun i hi h => hk i (by have : i < s.mem.next := hi; show i < s.mem.next + nA; omega) h fun t b ht hcl => ?_, by have : s.mem.next + nA ≤ M'.next := hn; show s.mem.next ≤ M'.next; omega⟩
    have := (hres t i b ht hcl).1; omega
  · intro j hj
    by_cases hlt : j < ops.size <;> simp [hlt] at hj
  · exact Nat.le_trans List.countP_le_length (Nat.le_of_eq hst.len)
  · exact {
      cut := rfl
      last := .inl rfl
      base := rfl
      done := by simp
      open_ := fun t ht _ h => by by_cases hlt : t.i < ops.size <;> simp [hlt] at h
      hr := hw' hc.hr
      free := fun i hi => hc.free i (by have : s.mem.next + nA ≤ i := hi; omega)
      pin := fun i b h => h
      pal := fun t i b ht hcl h => by by_cases hlt : t.i < ops.size <;> simp [hlt] at h
      pof := fun i b h => .inl h
      un := fun t i b ht hcl _ => hres' t i b ht hcl
      res := fun t i b ht hcl => ⟨(hres t i b ht hcl).2, by
        show s.mem.get i = none
        cases hg : s.mem.get i with
        | none => rfl
        | some b' => obtain ⟨f, hf, _⟩ := hc.hr.one i b' hg; rw [hres' t i b ht hcl] at hf; cases hf⟩
      tin := fun t s ht h => by by_cases hlt : t.i < ops.size <;> simp [hlt] at h
      tof := fun s v hg _ => hc.er s v hg
      ext := ⟨Sub.refl ρ, Nat.le_refl _, fun _ _ _ => rfl, fun i f h h' => (by rw [h] at h'; cases h'), fun i b' h => .inl ⟨b', h, fun x => x⟩, Io.refl _⟩
      keep := fun i _ h _ => h
      next := Nat.le_refl _
      defers := rfl
      size := hc.size }

/-- a region, in the one order -/
theorem seq_ops {P : Program} {r : Option Nat} {ds : List Deferred} {k : Nat} {ops : Array Oper} {Q : Exit → Act → World → Prop} : ∀ (T : List Tk) (e : Env) (M : Mem) (e' : Env) (M' : Mem) (ρ : Emb) (a : Act) (w : World),
    Chain T e M e' M' → (∀ t, t ∈ T → t.Ok P ops) → (∀ t, t ∈ T → t.cls = .read → StillOk P t.o (aev t.env) t.pre.get t.v) → (∀ t s, t ∈ T → t.o.dst = some s → s < k) →
    (∀ A t C i b, T = A ++ t :: C → t.cls = .alloc i b → i < M.next ∧ ρ i = none ∧ ∀ u b', u ∈ C → u.cls ≠ .alloc i b') → Cur0 P k ds ρ e M a w →
    (∀ ρ' a' w', Cur0 P k ds ρ' e' M' a' w' → Ext ρ M.get w ρ' M'.get w' → (∀ i, i < M.next → ρ i = none → (∀ t b, t ∈ T → t.cls ≠ .alloc i b) → ρ' i = none) → M.next ≤ M'.next → Q .normal a' w') →
    wpOpsIn (Fw r) 0 P ops Q (T.map (·.i)) a w := by
  intro T
  induction T with
  | nil =>
    intro e M e' M' ρ a w hch _ _ _ _ hc hQ
    obtain ⟨rfl, rfl⟩ := hch
    exact hQ ρ a w hc (Ext.refl _ _ _) (fun _ _ h _ => h) (Nat.le_refl _)
  | cons t T ih =>
    intro e M e' M' ρ a w hch hok hrd hdst hun hc hQ
    obtain ⟨h1, h2, h3⟩ := hch
    rw [List.map_cons, wpOpsIn_cons]
    unfold wpOpIn
    simp only [(hok t List.mem_cons_self).op]
    have hok' := (hok t List.mem_cons_self).cls
    have hd : ∀ s, t.o.dst = some s → s < a.tmps.size := fun s h => hc.size ▸ hdst t s List.mem_cons_self h
    have hseen : ∀ s, looks ops t.o s → ∀ v, t.env.get s = some v → ∃ v', a.tmps[s]? = some v' ∧ VR P ρ v v' := fun s _ v hv => hc.er s v (h1 ▸ hv)
    have hopnd : (∀ x, x ∈ t.o.op.operands → ∃ v, aev t.env x = some v) → Opnds P ρ (aev t.env) t.o a := fun hall x hx =>
      let ⟨v, hv⟩ := hall x hx; ⟨v, hv, aev_eval (e := t.env) (h1 ▸ hc.er) hv⟩
    have more : ∀ (ρ' : Emb) v' w', VR P ρ' t.v v' → HR P ρ' t.post.get w' → Free ρ' t.post.next → Ext ρ M.get w ρ' t.post.get w' → M.next ≤ t.post.next →
        (∀ i, i < M.next → ρ i = none → (∀ b, t.cls ≠ .alloc i b) → ρ' i = none) → wpOpsIn (Fw r) 0 P ops Q (T.map (·.i)) (a.put t.o.dst v') w' := by
      intro ρ' v' w' hv hr hf he hn hk
      refine ih (e.put t.o.dst t.v) t.post e' M' ρ' _ w' h3 (fun u hu => hok u (List.mem_cons_of_mem _ hu)) (fun u hu => hrd u (List.mem_cons_of_mem _ hu)) (fun u s hu => hdst u s (List.mem_cons_of_mem _ hu)) ?_
        ⟨(hc.er.mono he.sub).put hd hv, hr, hf, (put_defers' _ _ _).trans hc.defers, (put_size _ _ _).trans hc.size⟩ ?_
      · intro A u C i b hT hcl
        obtain ⟨q1, q2, q3⟩ := hun (t :: A) u C i b (by rw [hT]; rfl) hcl
        refine ⟨by omega, hk i q1 q2 fun b' hcl' => ?_, q3⟩
        exact (hun [] t T i b' rfl hcl').2.2 u b (by rw [hT]; simp) hcl
      · intro ρ'' a'' w'' hc'' he'' hk'' hn''
        refine hQ ρ'' a'' w'' hc'' (he.trans hc.hr he'') (fun i hi hn0 hall => hk'' i (by omega) (hk i hi hn0 fun b => hall t b List.mem_cons_self) fun u b hu => hall u b (List.mem_cons_of_mem _ hu)) (by omega)
    have stay : t.post = M → ∀ v' w', VR P ρ t.v v' → HR P ρ M.get w' → Ext ρ M.get w ρ M.get w' → wpOpsIn (Fw r) 0 P ops Q (T.map (·.i)) (a.put t.o.dst v') w' := fun hp v' w' hv hr he =>
      more ρ v' w' hv (hp ▸ hr) (hp ▸ hc.free) (hp ▸ he) (by rw [hp]; exact Nat.le_refl _) fun _ _ h _ => h
    cases hcl : t.cls with
    | skip =>
      rw [hcl] at hok'; obtain ⟨hw, hv, hp⟩ := hok'
      simp only [want_at hseen hw, Bool.false_eq_true, if_false]
      refine ⟨fun _ _ => trivial, ?_⟩
      exact stay (hp.trans h2) _ _ (by rw [hv]; exact VR.undef P ρ) hc.hr (Ext.refl _ _ _)
    | pure =>
      rw [hcl] at hok'; obtain ⟨hw, hall, hs, hp⟩ := hok'
      simp only [want_at hseen hw, if_true]
      exact ((hs M.get).in_ r ρ a w _ Q (hopnd hall) hc.hr fun v' w' hv hr he => stay (hp.trans h2) v' w' hv hr he)
    | read =>
      rw [hcl] at hok'; obtain ⟨hw, hall, hp⟩ := hok'
      simp only [want_at hseen hw, if_true]
      have hs := hrd t List.mem_cons_self hcl
      rw [h2] at hs
      exact (hs.in_ r ρ a w _ Q (hopnd hall) hc.hr fun v' w' hv hr he => stay (hp.trans h2) v' w' hv hr he)
    | alloc id b =>
      rw [hcl] at hok'; obtain ⟨hw, hall, _, ⟨mk, hv, hA⟩, hp⟩ := hok'
      simp only [want_at hseen hw, if_true]
      obtain ⟨q1, q2, _⟩ := hun [] t T id b rfl hcl
      refine (hA.in_ r ρ M.get a w id _ Q (hopnd hall) hc.hr q2 fun v' f w' hv' hr he => ?_)
      have hg : t.post.get = updM M.get id b := funext fun i => by rw [hp, h2, Mem.get_put]; rfl
      have hnx : t.post.next = M.next := by rw [hp, h2]; exact Mem.next_put _ _ _
      refine more (updE ρ id f) v' w' (hv ▸ hv') (hg ▸ hr) ?_ (hg ▸ he) (by rw [hnx]; exact Nat.le_refl _) ?_
      · intro i hi; rw [hnx] at hi; unfold updE; have : i ≠ id := by omega
        simp [this, hc.free i hi]
      · intro i hi hn0 hall; unfold updE
        have : i ≠ id := by rintro rfl; exact hall b hcl
        simp [this, hn0]
    | eff =>
      rw [hcl] at hok'; obtain ⟨hw, hall, _, he⟩ := hok'
      simp only [want_at hseen hw, if_true]
      refine (he.in_ r ρ a w _ Q (hopnd hall) (by rw [h2]; exact hc.hr) (by rw [h2]; exact hc.free) fun v' ρ' w' hv hr hf hg => ?_)
      rw [h2] at hg
      exact more ρ' v' w' hv hr hf hg.ext hg.next fun i hi hn0 _ => hg.keep i hi hn0

theorem ARun.region_seq {P : Program} {r : Option Nat} {k id : Nat} {ops : Array Oper} {s : St} {nA : Nat} {T : List Tk} {e' : Env} {M' : Mem} (hord : T.map (·.i) = List.range ops.size)
    (hdst : ∀ t s, t ∈ T → t.o.dst = some s → s < k) (hids : ∀ A t C i b, T = A ++ t :: C → t.cls = .alloc i b → s.mem.next ≤ i ∧ i < s.mem.next + nA ∧ ∀ u b', u ∈ C → u.cls ≠ .alloc i b')
    (hok : ∀ t, t ∈ T → t.Ok P ops) (hch : Chain T s.env (s.mem.bump nA) e' M') (hrd : ∀ t, t ∈ T → t.cls = .read → StillOk P t.o (aev t.env) t.pre.get t.v) :
    ARun P r k (.region id ops false) s .normal ⟨e', M', s.dfr⟩ := by
  intro n₀ ρ a w hc hle
  refine wpIn_region ?_
  rw [← hord]
  refine seq_ops (k := k) T s.env (s.mem.bump nA) e' M' ρ a w hch hok hrd hdst ?_ ⟨hc.er, hc.hr, fun i hi => hc.free i (by have : s.mem.next + nA ≤ i := hi; omega), rfl, hc.size⟩ ?_
  · intro A t C i b hT hcl
    obtain ⟨q1, q2, q3⟩ := hids A t C i b hT hcl
    exact ⟨q2, hc.free i q1, q3⟩
  · intro ρ' a' w' hc' he hk hn
    refine ⟨rfl, ρ', hc'.cur hc.hr hc.defers he, he, fun i hi h => hk i (by have : i < s.mem.next := hi; show i < s.mem.next + nA; omega) h fun t b ht hcl => ?_, by have : s.mem.next + nA ≤ M'.next := hn; show s.mem.next ≤ M'.next; omega⟩
    obtain ⟨A, C, hT⟩ := List.append_of_mem ht
    have := (hids A t C i b hT hcl).1; omega
end Go.Proofs.YtopblipficpilaaGreatDoor.AY

/- The layer, seventh part: operations that leave the memory as it is, and that do not look at it. -/
namespace Go.Proofs.YtopblipficpilaaGreatDoor.AY
open Go
set_option linter.unusedVariables false
set_option linter.unusedSimpArgs false

theorem StillOk.of_run {P : Program} {o : Oper} {ev : Operand → Option Value} {m : Mm} {v : Value}
    (h : ∀ ρ a w, Opnds P ρ ev o a → HR P ρ m w → ∃ v', (execOp a.eval o).run P w = .ok (.value v') w ∧ VR P ρ v v') : StillOk P o ev m v := by
  intro ρ a w K Q ho hr hk
  obtain ⟨v', hv, hrel⟩ := h ρ a w ho hr
  unfold Oper.wp
  rw [hv]
  exact hk v' w hrel hr (Ext.refl _ _ _)

/-- what an operand is told to be, it is -/
theorem Opnds.at {P : Program} {ρ : Emb} {ev : Operand → Option Value} {o : Oper} {a : Act} (h : Opnds P ρ ev o a) {x : Operand} (hx : x ∈ o.op.operands) {v : Value} (hv : ev x = some v) : VR P ρ v (a.eval x) := by
  obtain ⟨u, h1, h2⟩ := h x hx
  rw [hv] at h1; cases h1; exact h2

def intBin (op : BinOp) (k : IntKind) (a b : Int) : Option Value := match op with
  | .add => some (.int k (k.wrap (a + b)))
  | .sub => some (.int k (k.wrap (a - b)))
  | .mul => some (.int k (k.wrap (a * b)))
  | .quo => if b = 0 then none else some (.int k (k.wrap (a.tdiv b)))
  | .rem => if b = 0 then none else some (.int k (a.tmod b))
  | .and => some (.int k (k.wrap (BitVec.ofInt k.bits a &&& BitVec.ofInt k.bits b).toNat))
  | .or => some (.int k (k.wrap (BitVec.ofInt k.bits a ||| BitVec.ofInt k.bits b).toNat))
  | .xor => some (.int k (k.wrap (BitVec.ofInt k.bits a ^^^ BitVec.ofInt k.bits b).toNat))
  | .andNot => some (.int k (k.wrap (BitVec.ofInt k.bits a &&& ~~~BitVec.ofInt k.bits b).toNat))
  | .shl => if b < 0 then none else some (.int k (k.wrap (a * 2 ^ (min b.toNat k.bits))))
  | .shr => if b < 0 then none else some (.int k (a.fdiv (2 ^ (min b.toNat k.bits))))
  | .eql => some (.bool (a == b))
  | .neq => some (.bool (a != b))
  | .lss => some (.bool (a < b))
  | .leq => some (.bool (a ≤ b))
  | .gtr => some (.bool (a > b))
  | .geq => some (.bool (a ≥ b))

def strBin (op : BinOp) (x y : ByteArray) : Option Value := match op with
  | .add => if ((x.size + y.size : Nat) : Int) > 9223372036854775807 then none else some (.string (x ++ y))
  | .eql => some (.bool (x.toList == y.toList))
  | .neq => some (.bool (!(x.toList == y.toList)))
  | .lss => some (.bool (Op.bytesLess x.toList y.toList))
  | .leq => some (.bool (Op.bytesLess x.toList y.toList || x.toList == y.toList))
  | .gtr => some (.bool (!(Op.bytesLess x.toList y.toList || x.toList == y.toList)))
  | .geq => some (.bool (!(Op.bytesLess x.toList y.toList)))
  | _ => none

def eq0 (P : Program) (t : TypeId) (x y : Value) : Option Bool := match P.underlying t, x, y with
  | some .bool, .bool a, .bool b => some (a == b)
  | some (.slice _), .slice none _ _, .slice none _ _ => some true
  | some (.slice _), .slice none _ _, .slice (some _) _ _ => some false
  | some (.slice _), .slice (some _) _ _, .slice none _ _ => some false
  | some (.pointer _), .pointer none, .pointer none => some true
  | some (.pointer _), .pointer none, .pointer (some _) => some false
  | some (.pointer _), .pointer (some _), .pointer none => some false
  | some (.interface _), .nilIface, .iface _ _ => some false
  | some (.interface _), .iface _ _, .nilIface => some false
  | some (.func _ _ _), .nilFunc, .nilFunc => some true
  | some (.func _ _ _), .nilFunc, .func _ _ _ => some false
  | some (.func _ _ _), .func _ _ _, .nilFunc => some false
  | _, _, _ => none

def eqS (P : Program) (t : TypeId) (x y : Value) : Option Bool := match P.underlying t, x, y with
  | some (.int _), .int k a, .int k' b => if k = k' then some (a == b) else none
  | some .string, .string a, .string b => some (a.toList == b.toList)
  | _, x, y => eq0 P t x y
/-- a value's part -/
def aggT : TypeDesc → Bool
  | .struct _ => true
  | .array _ _ => true
  | _ => false
def partV (P : Program) (t : TypeId) (cs : Array Value) (off : Nat) : Option Value := match P.info? t, P.underlying t with
  | some i, some d => bif aggT d then some (.agg (cs.extract off (off + i.size))) else cs[off]?
  | _, _ => none
def eqFl (P : Program) (xs ys : Array Value) : List Field → Option Bool
  | [] => some true
  | f :: fs => if f.name ≠ "_" then match partV P f.type xs f.offset, partV P f.type ys f.offset with
      | some a, some b => match eqS P f.type a b with
        | some true => eqFl P xs ys fs
        | some false => some false
        | none => none
      | _, _ => none
    else eqFl P xs ys fs
def eqV (P : Program) (t : TypeId) (x y : Value) : Option Bool := match x, y with
  | .agg xs, .agg ys => match P.underlying t with
    | some (.struct fs) => if P.stoodInHeld t = false ∧ P.eqGuardType P.depth t = false then eqFl P xs ys fs.toList else none
    | _ => none
  | x, y => eq0 P t x y

def binV (P : Program) (op : BinOp) (t : TypeId) (x y : Value) : Option Value := match x, y with
  | .int k a, .int k' b => if k = k' ∨ op = .shl ∨ op = .shr then intBin op k a b else none
  | .string a, .string b => strBin op a b
  | x, y => match op with
    | .eql => (eqV P t x y).map Value.bool
    | .neq => (eqV P t x y).map fun b => Value.bool (!b)
    | _ => none

theorem run_isAgg {P : Program} {w : World} {t : TypeId} {d : TypeDesc} (h : P.underlying t = some d) : (isAgg t).run P w = .ok (aggT d) w := by
  cases d <;> simp [isAgg, run_underlying h, aggT]
theorem run_sizeOf' {P : Program} {w : World} {t : TypeId} {i : TypeInfo} (h : P.info? t = some i) : (sizeOf t).run P w = .ok i.size w := by simp [sizeOf, typeInfo, h]
theorem VRs.get {P : Program} {ρ : Emb} {xs xs' : Array Value} (h : VRs P ρ xs xs') {i : Nat} {v : Value} (hv : xs[i]? = some v) : ∃ v', xs'[i]? = some v' ∧ VR P ρ v v' := by
  have hlt : i < xs.size := (Array.getElem?_eq_some_iff.1 hv).1
  have hlt' : i < xs'.size := by have := h.1; omega
  exact ⟨xs'[i], by simp [hlt'], h.2 i v xs'[i] hv (by simp [hlt'])⟩
theorem VRs.extract {P : Program} {ρ : Emb} {xs xs' : Array Value} (h : VRs P ρ xs xs') (i j : Nat) : VRs P ρ (xs.extract i j) (xs'.extract i j) := by
  refine ⟨by simp [h.1], fun n v v' hv hv' => ?_⟩
  rw [Array.getElem?_extract] at hv hv'
  split at hv
  · split at hv'
    · exact h.2 _ v v' hv hv'
    · cases hv'
  · cases hv
theorem run_part {P : Program} {w : World} {ρ : Emb} {t : TypeId} {cs cs' : Array Value} {off : Nat} {v : Value} (h : partV P t cs off = some v) (hx : VRs P ρ cs cs') : ∃ v', (part t cs' off).run P w = .ok v' w ∧ VR P ρ v v' := by
  unfold partV at h
  split at h
  · rename_i i d h2 h1
    cases hd : aggT d with
    | true =>
      simp only [hd, cond_true, Option.some.injEq] at h; subst h
      have := hx.extract off (off + i.size)
      refine ⟨_, ?_, .agg this.1 this.2⟩
      simp only [part, Sem.run_bind, run_isAgg h1, hd, Result.andThen_ok, if_true, run_sizeOf' h2, Sem.run_pure]
    | false =>
      simp only [hd, cond_false] at h
      obtain ⟨v', h3, h4⟩ := hx.get h
      refine ⟨v', ?_, h4⟩
      simp only [part, Sem.run_bind, run_isAgg h1, hd, Result.andThen_ok, h3]; rfl
  · cases h
theorem run_eq0 {P : Program} {w : World} {ρ : Emb} {t : TypeId} {x y x' y' : Value} {b : Bool} (d : Nat) (h : eq0 P t x y = some b) (hx : VR P ρ x x') (hy : VR P ρ y y') : (Op.equalIn (d + 1) t x' y').run P w = .ok b w := by
  unfold eq0 at h
  split at h
  all_goals first
    | (cases h; done)
    | (rename_i hu; cases hx <;> cases hy <;> (simp only [Option.some.injEq] at h; subst h; simp only [Op.equalIn, Sem.run_bind, run_underlying hu, Result.andThen_ok]; rfl))
theorem run_eqS {P : Program} {w : World} {ρ : Emb} {t : TypeId} {x y x' y' : Value} {b : Bool} (d : Nat) (h : eqS P t x y = some b) (hx : VR P ρ x x') (hy : VR P ρ y y') : (Op.equalIn (d + 1) t x' y').run P w = .ok b w := by
  unfold eqS at h
  split at h
  · rename_i k' k a k'' c hu
    cases hx; cases hy
    split at h
    · rename_i hk
      subst hk
      simp only [Option.some.injEq] at h; subst h
      exact run_equalIn_int w d t k k' a c hu
    · cases h
  · rename_i a c hu
    cases hx; cases hy
    simp only [Option.some.injEq] at h; subst h
    exact run_equalIn_string w d t a c hu
  · exact run_eq0 d h hx hy
theorem run_eqFl {P : Program} {w : World} {ρ : Emb} {xs ys xs' ys' : Array Value} (d : Nat) (hx : VRs P ρ xs xs') (hy : VRs P ρ ys ys') : ∀ {fs : List Field} {b : Bool}, eqFl P xs ys fs = some b → (Op.eqFields (d + 1) xs' ys' fs).run P w = .ok b w := by
  intro fs
  induction fs with
  | nil => intro b h; simp only [eqFl, Option.some.injEq] at h; subst h; rfl
  | cons f fs ih =>
    intro b h
    simp only [eqFl] at h
    simp only [Op.eqFields]
    by_cases hn : f.name ≠ "_"
    · rw [if_pos hn] at h ⊢
      split at h
      · rename_i u v h1 h2
        obtain ⟨u', g1, g2⟩ := run_part (w := w) h1 hx
        obtain ⟨v', g3, g4⟩ := run_part (w := w) h2 hy
        simp only [Sem.run_bind, g1, g3, Result.andThen_ok]
        split at h
        · rename_i he
          rw [run_eqS d he g2 g4]
          simpa using ih h
        · rename_i he
          cases h
          rw [run_eqS d he g2 g4]
          rfl
        · cases h
      · cases h
    · rw [if_neg hn] at h ⊢
      exact ih h
theorem run_equal {P : Program} {w : World} {ρ : Emb} {t : TypeId} {x y x' y' : Value} {b : Bool} (h : eqV P t x y = some b) (hx : VR P ρ x x') (hy : VR P ρ y y') : (Op.equal t x' y').run P w = .ok b w := by
  unfold eqV at h
  split at h
  · rename_i xs ys
    cases hx with
    | agg h1 h2 =>
      cases hy with
      | agg h3 h4 =>
        split at h
        · rename_i fs hu
          split at h
          · rename_i hc
            have hfo : P.fieldsOf t = fs := by simp [Program.fieldsOf, hu]
            exact (run_equalIn_struct (P := P) w 9999 t _ _ (by rw [hfo]; exact hu) hc.1).trans (by rw [hfo]; exact run_eqFl 9998 ⟨h1, h2⟩ ⟨h3, h4⟩ h)
          · cases h
        · cases h
  · exact run_eq0 9999 h hx hy
theorem run_eqGuard {P : Program} {w : World} {ρ : Emb} {op : BinOp} {t : TypeId} {x y x' y' : Value} {p q : Operand} {b : Bool} (h : eqV P t x y = some b) (hx : VR P ρ x x') (hy : VR P ρ y y') : (eqGuard op t p q x' y').run P w = .ok () w := by
  unfold eqV at h
  split at h
  · cases hx with
    | agg h1 h2 =>
      cases hy with
      | agg h3 h4 =>
        split at h
        · split at h
          · rename_i hc; exact run_eqGuard_agg w op t p q _ _ hc.2
          · cases h
        · cases h
  · unfold eq0 at h
    split at h
    all_goals first
      | (cases h; done)
      | (cases hx <;> cases hy <;> (unfold eqGuard; cases op <;> simp))

theorem run_binOp {P : Program} {w : World} {ρ : Emb} {op : BinOp} {t : TypeId} {x y x' y' v : Value} {p q : Operand} (h : binV P op t x y = some v) (hx : VR P ρ x x') (hy : VR P ρ y y') :
    ∃ v', (do eqGuard op t p q x' y'; binOp op t x' y').run P w = .ok v' w ∧ VR P ρ v v' := by
  unfold binV at h
  split at h
  · rename_i k a k' b
    cases hx; cases hy
    split at h
    · rename_i hk
      have hg : (eqGuard op t p q (.int k a) (.int k' b)).run P w = .ok () w := by unfold eqGuard; cases op <;> simp
      cases op <;> simp only [intBin] at h
      all_goals first
        | (simp only [reduceCtorEq, or_false] at hk; subst hk)
        | skip
      all_goals first
        | (cases h; refine ⟨_, ?_, by constructor⟩; simp only [Sem.run_bind, hg, Result.andThen_ok]; simp [binOp, Op.intArith, Op.intBits, Op.intCmp]; done)
        | (split at h
           · cases h
           · rename_i hb; cases h; refine ⟨_, ?_, by constructor⟩; simp only [Sem.run_bind, hg, Result.andThen_ok]; simp [binOp, Op.intDiv, Op.shift, hb])
    · cases h
  · rename_i a b
    cases hx; cases hy
    have hg : (eqGuard op t p q (.string a) (.string b)).run P w = .ok () w := by unfold eqGuard; cases op <;> simp
    cases op <;> simp only [strBin] at h <;> try (cases h; done)
    all_goals first
      | (cases h; refine ⟨_, ?_, by constructor⟩; simp only [Sem.run_bind, hg, Result.andThen_ok]; simp [binOp, Op.stringOp]; done)
      | (split at h
         · cases h
         · rename_i hb; cases h; refine ⟨_, ?_, by constructor⟩; simp only [Sem.run_bind, hg, Result.andThen_ok]; simp only [binOp, Op.stringOp]; rw [if_neg (by simpa [IntKind.max, IntKind.signed, IntKind.bits] using hb)]; rfl)
  · rename_i hni hns
    have key : ∀ b, eqV P t x y = some b → (binOp .eql t x' y') = (do pure (.bool (← Op.equal t x' y'))) ∧ (binOp .neq t x' y') = (do pure (.bool (!(← Op.equal t x' y')))) := by
      intro b hb
      unfold eqV at hb
      split at hb
      · cases hx; cases hy; exact ⟨rfl, rfl⟩
      · unfold eq0 at hb
        split at hb
        all_goals first
          | (cases hb; done)
          | (cases hx <;> cases hy <;> exact ⟨rfl, rfl⟩)
    split at h
    · cases he : eqV P t x y with
      | none => simp [he] at h
      | some b =>
        simp only [he, Option.map_some, Option.some.injEq] at h; subst h
        refine ⟨.bool b, ?_, .bool b⟩
        simp only [Sem.run_bind, run_eqGuard he hx hy, Result.andThen_ok, (key b he).1, run_equal he hx hy, Sem.run_pure]
    · cases he : eqV P t x y with
      | none => simp [he] at h
      | some b =>
        simp only [he, Option.map_some, Option.some.injEq] at h; subst h
        refine ⟨.bool (!b), ?_, .bool _⟩
        simp only [Sem.run_bind, run_eqGuard he hx hy, Result.andThen_ok, (key b he).2, run_equal he hx hy, Sem.run_pure]
    · cases h

def unV (op : UnOp) (x : Value) : Option Value := match op, x with
  | .neg, .int k n => some (.int k (k.wrap (0 - n)))
  | .xor, .int k n => intBin .xor k (if k.signed then -1 else k.max) n
  | .not, .bool b => some (.bool (!b))
  | _, _ => none
theorem run_unOp {P : Program} {w : World} {ρ : Emb} {op : UnOp} {x x' v : Value} (h : unV op x = some v) (hx : VR P ρ x x') : ∃ v', (Op.unary op x').run P w = .ok v' w ∧ VR P ρ v v' := by
  unfold unV at h
  split at h
  · cases hx; cases h; exact ⟨_, rfl, .int _ _⟩
  · cases hx; simp only [intBin] at h; cases h; exact ⟨_, rfl, .int _ _⟩
  · cases hx; cases h; exact ⟨_, rfl, .bool _⟩
  · cases h

/-- conversions that look at no memory -/
def convV (P : Program) (src dst : TypeId) (x : Value) : Option Value := match P.underlying src, P.underlying dst, x with
  | some _, some (.int k), .int _ n => some (.int k (k.wrap n))
  | some _, some .string, .string s => some (.string s)
  | _, _, _ => none
theorem run_conv {P : Program} {w : World} {ρ : Emb} {src dst : TypeId} {x x' v : Value} (h : convV P src dst x = some v) (hx : VR P ρ x x') : ∃ v', (convert src dst x').run P w = .ok v' w ∧ VR P ρ v v' := by
  unfold convV at h
  split at h
  · rename_i d k k' n h1 h2
    cases hx; cases h
    refine ⟨_, ?_, .int _ _⟩
    unfold convert
    simp [run_underlying h1, run_underlying h2, Conv.intToInt]
  · rename_i d s h1 h2
    cases hx; cases h
    refine ⟨_, ?_, .string _⟩
    unfold convert
    simp [run_underlying h1, run_underlying h2]
  · cases h

end Go.Proofs.YtopblipficpilaaGreatDoor.AY

/- The layer, eighth part: more operations that leave the memory as it is. -/
namespace Go.Proofs.YtopblipficpilaaGreatDoor.AY
open Go
set_option linter.unusedVariables false
set_option linter.unusedSimpArgs false

def evL (ev : Operand → Option Value) : List Operand → Option (List Value)
  | [] => some []
  | x :: xs => match ev x, evL ev xs with
    | some v, some vs => some (v :: vs)
    | _, _ => none
def evP (ev : Operand → Option Value) : List (Nat × Operand) → Option (List (Nat × Value))
  | [] => some []
  | (i, x) :: xs => match ev x, evP ev xs with
    | some v, some vs => some ((i, v) :: vs)
    | _, _ => none

/-- lists, place by place -/
inductive VL (P : Program) (ρ : Emb) : List Value → List Value → Prop
  | nil : VL P ρ [] []
  | cons {v v' : Value} {l l' : List Value} (h : VR P ρ v v') (h' : VL P ρ l l') : VL P ρ (v :: l) (v' :: l')
inductive VP (P : Program) (ρ : Emb) : List (Nat × Value) → List (Nat × Value) → Prop
  | nil : VP P ρ [] []
  | cons {i : Nat} {v v' : Value} {l l' : List (Nat × Value)} (h : VR P ρ v v') (h' : VP P ρ l l') : VP P ρ ((i, v) :: l) ((i, v') :: l')

theorem VL.length {P : Program} {ρ : Emb} {l l' : List Value} (h : VL P ρ l l') : l.length = l'.length := by induction h <;> simp_all
theorem VL.get {P : Program} {ρ : Emb} {l l' : List Value} (h : VL P ρ l l') : ∀ {i : Nat} {v v' : Value}, l[i]? = some v → l'[i]? = some v' → VR P ρ v v' := by
  induction h with
  | nil => intro i v v' h; simp at h
  | cons h h' ih =>
    intro i v v' hv hv'
    cases i with
    | zero => simp at hv hv'; subst hv; subst hv'; exact h
    | succ i => simp at hv hv'; exact ih hv hv'
theorem VL.of_get {P : Program} {ρ : Emb} : ∀ {l l' : List Value}, l.length = l'.length → (∀ (i : Nat) (v v' : Value), l[i]? = some v → l'[i]? = some v' → VR P ρ v v') → VL P ρ l l'
  | [], [], _, _ => .nil
  | [], _ :: _, h, _ => by simp at h
  | _ :: _, [], h, _ => by simp at h
  | v :: l, v' :: l', h, hg => .cons (hg 0 v v' rfl rfl) (VL.of_get (by simpa using h) fun i u u' hu hu' => hg (i + 1) u u' (by simpa using hu) (by simpa using hu'))
theorem VL.vrs {P : Program} {ρ : Emb} {l l' : List Value} (h : VL P ρ l l') : VRs P ρ l.toArray l'.toArray :=
  ⟨by simp [h.length], fun i v v' hv hv' => h.get (by simpa using hv) (by simpa using hv')⟩
theorem VRs.vl {P : Program} {ρ : Emb} {xs xs' : Array Value} (h : VRs P ρ xs xs') : VL P ρ xs.toList xs'.toList :=
  VL.of_get (by simp [h.1]) fun i v v' hv hv' => h.2 i v v' (by simpa using hv) (by simpa using hv')
theorem VL.append {P : Program} {ρ : Emb} {l l' m m' : List Value} (h : VL P ρ l l') (h' : VL P ρ m m') : VL P ρ (l ++ m) (l' ++ m') := by
  induction h with
  | nil => exact h'
  | cons h _ ih => exact .cons h ih
theorem VL.mono {P : Program} {ρ ρ' : Emb} {l l' : List Value} (h : VL P ρ l l') (hs : Sub ρ ρ') : VL P ρ' l l' := by
  induction h with
  | nil => exact .nil
  | cons h _ ih => exact .cons (h.mono hs) ih

theorem evL_at {P : Program} {ρ : Emb} {ev : Operand → Option Value} {cv : Operand → Value} : ∀ {xs : List Operand} {vs : List Value}, (∀ x, x ∈ xs → ∀ v, ev x = some v → VR P ρ v (cv x)) → evL ev xs = some vs → VL P ρ vs (xs.map cv)
  | [], vs, _, h => by simp only [evL, Option.some.injEq] at h; subst h; exact .nil
  | x :: xs, vs, hx, h => by
    simp only [evL] at h
    split at h
    · rename_i v us h1 h2
      cases h
      exact .cons (hx x (by simp) v h1) (evL_at (fun y hy => hx y (by simp [hy])) h2)
    · cases h
theorem evP_at {P : Program} {ρ : Emb} {ev : Operand → Option Value} {cv : Operand → Value} : ∀ {xs : List (Nat × Operand)} {vs : List (Nat × Value)}, (∀ p, p ∈ xs → ∀ v, ev p.2 = some v → VR P ρ v (cv p.2)) → evP ev xs = some vs →
    VP P ρ vs (xs.map fun (i, x) => (i, cv x))
  | [], vs, _, h => by simp only [evP, Option.some.injEq] at h; subst h; exact .nil
  | (i, x) :: xs, vs, hx, h => by
    simp only [evP] at h
    split at h
    · rename_i v us h1 h2
      cases h
      exact .cons (hx (i, x) (by simp) v h1) (evP_at (fun y hy => hx y (by simp [hy])) h2)
    · cases h

theorem VR.cells {P : Program} {ρ : Emb} {v v' : Value} (h : VR P ρ v v') : VL P ρ v.cells.toList v'.cells.toList := by
  cases h with
  | agg hx h => exact VRs.vl ⟨hx, h⟩
  | bool b => exact .cons (.bool b) .nil
  | int k n => exact .cons (.int k n) .nil
  | float k n => exact .cons (.float k n) .nil
  | complex k a b => exact .cons (.complex k a b) .nil
  | string s => exact .cons (.string s) .nil
  | nilp => exact .cons .nilp .nil
  | ptr h => exact .cons (.ptr h) .nil
  | nils => exact .cons .nils .nil
  | slice h a b c d e => exact .cons (.slice h a b c d e) .nil
  | nilm => exact .cons .nilm .nil
  | mapr h => exact .cons (.mapr h) .nil
  | nilc => exact .cons .nilc .nil
  | nilf => exact .cons .nilf .nil
  | func fn a b c d => exact .cons (.func fn a b c d) .nil
  | iface t h => exact .cons (.iface t h) .nil
  | nili => exact .cons .nili .nil
  | tuple a b => exact .cons (.tuple a b) .nil

/-- cells written into a row -/
theorem VRs.set {P : Program} {ρ : Emb} {xs xs' : Array Value} (h : VRs P ρ xs xs') {v v' : Value} (hv : VR P ρ v v') (i : Nat) : VRs P ρ (xs.setIfInBounds i v) (xs'.setIfInBounds i v') := by
  refine ⟨by simp [h.1], fun j u u' hu hu' => ?_⟩
  rw [Array.getElem?_setIfInBounds] at hu hu'
  by_cases hij : i = j
  · subst hij
    simp only [if_true] at hu hu'
    split at hu <;> split at hu' <;> first | (cases hu; cases hu'; exact hv) | (cases hu; done) | (cases hu'; done)
  · simp only [hij, if_false] at hu hu'
    exact h.2 j u u' hu hu'
theorem fill_cells {P : Program} {ρ : Emb} {l l' : List Value} (h : VL P ρ l l') : ∀ (off j : Nat) {xs xs' : Array Value}, VRs P ρ xs xs' →
    VRs P ρ ((l.zipIdx j).foldl (fun cs (c, j) => cs.setIfInBounds (off + j) c) xs) ((l'.zipIdx j).foldl (fun cs (c, j) => cs.setIfInBounds (off + j) c) xs') := by
  induction h with
  | nil => intro off j xs xs' h; exact h
  | cons hv _ ih => intro off j xs xs' h; simp only [List.zipIdx_cons, List.foldl_cons]; exact ih off (j + 1) (h.set hv (off + j))
theorem foldl_zipIdx {α β : Type} (c : Array α) (f : β → α × Nat → β) (x : β) : c.zipIdx.foldl f x = c.toList.zipIdx.foldl f x := by
  rw [← Array.foldl_toList, Array.toList_zipIdx]
theorem fill_at {P : Program} {ρ : Emb} {place : Nat → Option (Nat × Nat)} {l l' : List (Nat × Value)} (h : VP P ρ l l') : ∀ {xs xs' r : Array Value}, VRs P ρ xs xs' → Instr.fill place xs l = some r →
    ∃ r', Instr.fill place xs' l' = some r' ∧ VRs P ρ r r' := by
  induction h with
  | nil => intro xs xs' r h hf; simp only [Instr.fill, Option.some.injEq] at hf; subst hf; exact ⟨xs', rfl, h⟩
  | cons hv _ ih =>
    intro xs xs' r h hf
    rename_i i v v' l l' _
    simp only [Instr.fill] at hf ⊢
    cases hp : place i with
    | none => simp [hp] at hf
    | some os =>
      obtain ⟨off, size⟩ := os
      have hc := hv.cells
      have hl := hc.length
      simp only [Array.length_toList] at hl
      simp only [hp] at hf ⊢
      rw [← hl, ← h.1]
      split at hf
      · cases hf
      · rename_i hcond
        rw [if_neg hcond]
        refine ih ?_ hf
        rw [foldl_zipIdx, foldl_zipIdx]
        exact fill_cells hc off 0 h

def plains (xs : Array Value) : Bool := xs.toList.all plain
theorem plains_self {P : Program} {ρ : Emb} {xs : Array Value} (h : plains xs = true) : VRs P ρ xs xs :=
  ⟨rfl, fun i v v' hv hv' => by
    rw [hv] at hv'; cases hv'
    exact plain_self (List.all_eq_true.1 h v (by have := Array.mem_of_getElem? hv; simpa using this))⟩

def placesL (P : Program) : List Field → Option (List (Nat × Nat))
  | [] => some []
  | f :: fs => match P.info? f.type, placesL P fs with
    | some i, some l => some ((f.offset, i.size) :: l)
    | _, _ => none
theorem run_placesL {P : Program} {w : World} : ∀ {fs : List Field} {l : List (Nat × Nat)}, placesL P fs = some l → (fs.mapM (m := Sem) fun f => do pure (f.offset, ← sizeOf f.type)).run P w = .ok l w
  | [], l, h => by simp only [placesL, Option.some.injEq] at h; subst h; simp
  | f :: fs, l, h => by
    simp only [placesL] at h
    split at h
    · rename_i i l' h1 h2
      cases h
      have h3 := run_placesL (w := w) h2
      rw [List.mapM_cons]
      simp only [Sem.run_bind, run_sizeOf' h1, Result.andThen_ok, Sem.run_pure]
      rw [h3]
      rfl
    · cases h

def zeroC (P : Program) (t : TypeId) : Option (Array Value) := match P.info? t with
  | some i => match i.zero with
    | some z => bif plains z.cells then some z.cells else none
    | none => none
  | none => none
theorem run_zeroC {P : Program} {w : World} {t : TypeId} {cs : Array Value} (h : zeroC P t = some cs) : ∃ z, (zeroValue t).run P w = .ok z w ∧ z.cells = cs ∧ plains cs = true := by
  unfold zeroC at h
  split at h
  · rename_i i h1
    split at h
    · rename_i z h2
      cases hp : plains z.cells with
      | false => simp [hp] at h
      | true => simp [hp] at h; subst h; exact ⟨z, by simp [zeroValue, typeInfo, h1, h2], rfl, hp⟩
    · cases h
  · cases h

def buildV (P : Program) (t : TypeId) (parts : List (Nat × Value)) : Option Value := match zeroC P t, P.underlying t with
  | some z, some (.struct fields) => match placesL P fields.toList with
    | some pl => (Instr.fill (pl.toArray[·]?) z parts).map Value.agg
    | none => none
  | some z, some (.array _ elem) => match P.info? elem with
    | some i => (Instr.fill (fun n => some (n * i.size, i.size)) z parts).map Value.agg
    | none => none
  | _, _ => none
theorem run_build {P : Program} {w : World} {ρ : Emb} {t : TypeId} {parts parts' : List (Nat × Value)} {v : Value} (h : buildV P t parts = some v) (hp : VP P ρ parts parts') :
    ∃ v', (Instr.build t parts'.toArray).run P w = .ok v' w ∧ VR P ρ v v' := by
  unfold buildV at h
  split at h
  · rename_i z fields h1 h2
    obtain ⟨zv, h3, h4, h5⟩ := run_zeroC (w := w) h1
    split at h
    · rename_i pl h6
      cases hf : Instr.fill (pl.toArray[·]?) z parts with
      | none => rw [hf] at h; cases h
      | some r =>
        simp only [hf, Option.map_some, Option.some.injEq] at h; subst h
        obtain ⟨r', h7, h8⟩ := fill_at hp (plains_self h5) hf
        have h9 := run_placesL (w := w) h6
        refine ⟨.agg r', ?_, .agg h8.1 h8.2⟩
        simp only [Instr.build, Sem.run_bind, h3, Result.andThen_ok, run_underlying h2]
        rw [Array.mapM_eq_mapM_toList]
        simp only [Sem.run_map, h9, Result.andThen_ok, h4, h7, Sem.run_pure]
    · cases h
  · rename_i z n elem h1 h2
    obtain ⟨zv, h3, h4, h5⟩ := run_zeroC (w := w) h1
    split at h
    · rename_i i h6
      cases hf : Instr.fill (fun n => some (n * i.size, i.size)) z parts with
      | none => rw [hf] at h; cases h
      | some r =>
        simp only [hf, Option.map_some, Option.some.injEq] at h; subst h
        obtain ⟨r', h7, h8⟩ := fill_at hp (plains_self h5) hf
        refine ⟨.agg r', ?_, .agg h8.1 h8.2⟩
        simp only [Instr.build, Sem.run_bind, h3, Result.andThen_ok, run_underlying h2, run_sizeOf' h6, h4, h7, Sem.run_pure]
    · cases h
  · cases h

def fieldV (P : Program) (t : TypeId) (x : Value) (f : Nat) : Option Value := match P.underlying t, x with
  | some (.struct fields), .agg cs => match fields[f]? with
    | some fl => partV P fl.type cs fl.offset
    | none => none
  | _, _ => none
theorem run_fieldV {P : Program} {w : World} {ρ : Emb} {t : TypeId} {x x' v : Value} {f : Nat} (h : fieldV P t x f = some v) (hx : VR P ρ x x') : ∃ v', (Instr.field t x' f).run P w = .ok v' w ∧ VR P ρ v v' := by
  unfold fieldV at h
  split at h
  · rename_i fields cs h1
    cases hx with
    | agg hs hg =>
      split at h
      · rename_i fl h2
        obtain ⟨v', h3, h4⟩ := run_part (w := w) h ⟨hs, hg⟩
        exact ⟨v', by simp only [Instr.field, Sem.run_bind, run_underlying h1, Result.andThen_ok, h2, asAgg, Sem.run_pure, h3], h4⟩
      · cases h
  · cases h

def extractV (x : Value) (i : Nat) : Option Value := match x with
  | .tuple vs => vs[i]?
  | _ => none
theorem run_extractV {P : Program} {w : World} {ρ : Emb} {x x' v : Value} {i : Nat} (h : extractV x i = some v) (hx : VR P ρ x x') : ∃ v', (Instr.extract x' i).run P w = .ok v' w ∧ VR P ρ v v' := by
  unfold extractV at h
  split at h
  · cases hx with
    | tuple hs hg =>
      obtain ⟨v', h3, h4⟩ := VRs.get ⟨hs, hg⟩ h
      exact ⟨v', by simp [Instr.extract, h3], h4⟩
  · cases h

def indexV (P : Program) (t : TypeId) (x i : Value) : Option Value := match P.underlying t, x, i with
  | some (.array len elem), .agg cs, .int _ n => if 0 ≤ n ∧ n < len then match P.info? elem with
      | some inf => partV P elem cs (n.toNat * inf.size)
      | none => none
    else none
  | some .string, .string s, .int _ n => match (if 0 ≤ n then s[n.toNat]? else none) with
    | some b => some (.int .u8 b.toNat)
    | none => none
  | _, _, _ => none
theorem run_indexV {P : Program} {w : World} {ρ : Emb} {t : TypeId} {x x' i i' v : Value} (h : indexV P t x i = some v) (hx : VR P ρ x x') (hi : VR P ρ i i') : ∃ v', (Instr.index t x' i').run P w = .ok v' w ∧ VR P ρ v v' := by
  unfold indexV at h
  split at h
  · rename_i len elem cs k n h1
    cases hi
    cases hx with
    | agg hs hg =>
      split at h
      · rename_i hb
        split at h
        · rename_i inf h2
          obtain ⟨v', h3, h4⟩ := run_part (w := w) h ⟨hs, hg⟩
          refine ⟨v', ?_, h4⟩
          simp only [Instr.index, asIntOf, Sem.run_bind, Sem.run_pure, Result.andThen_ok, run_underlying h1]
          rw [if_pos hb]
          simp only [Sem.run_bind, run_sizeOf' h2, Result.andThen_ok, h3]
        · cases h
      · cases h
  · rename_i s k n h1
    cases hi; cases hx
    split at h
    · rename_i b h2
      cases h
      refine ⟨_, ?_, .int _ _⟩
      simp only [Instr.index, asIntOf, Sem.run_bind, Sem.run_pure, Result.andThen_ok, run_underlying h1, h2]
    · cases h
  · cases h

def indexAddrV (P : Program) (t : TypeId) (x i : Value) : Option Value := match P.underlying t, x, i with
  | some (.slice elem), .slice (some ⟨b, o, none⟩) len _, .int _ n => if 0 ≤ n ∧ n < len then match P.info? elem with
      | some inf => some (.pointer (some ⟨b, o + n.toNat * inf.size, none⟩))
      | none => none
    else none
  | some (.array len elem), .pointer (some ⟨b, o, none⟩), .int _ n => if 0 ≤ n ∧ n < len then match P.info? elem with
      | some inf => some (.pointer (some ⟨b, o + n.toNat * inf.size, none⟩))
      | none => none
    else none
  | _, _, _ => none
theorem addr_add (b o n : Nat) : (⟨b, o, none⟩ : Addr).add n = ⟨b, o + n, none⟩ := by unfold Addr.add; split <;> simp_all
theorem run_indexAddrV {P : Program} {w : World} {ρ : Emb} {t : TypeId} {x x' i i' v : Value} (h : indexAddrV P t x i = some v) (hx : VR P ρ x x') (hi : VR P ρ i i') : ∃ v', (Instr.indexAt t x' i').run P w = .ok v' w ∧ VR P ρ v v' := by
  unfold indexAddrV at h
  split at h
  · rename_i elem b o len cap k n h1
    cases hi
    cases hx with
    | slice hf hn hc hp hr hsp =>
      rename_i c' p sp f
      split at h
      · rename_i hb
        obtain rfl := hsp (by omega)
        split at h
        · rename_i inf h2
          cases h
          refine ⟨.pointer (some ⟨f.blk, f.shift + (o + n.toNat * inf.size), none⟩), ?_, .ptr hf⟩
          have hp' := hp (.inl (by omega))
          subst hp'
          simp only [Instr.indexAt, asIntOf, Sem.run_bind, Sem.run_pure, Result.andThen_ok, run_underlying h1]
          rw [if_pos hb]
          simp only [Sem.run_bind, run_sizeOf' h2, Result.andThen_ok, Sem.run_pure, addr_add, Nat.add_assoc]
        · cases h
      · cases h
  · rename_i len elem b o k n h1
    cases hi
    cases hx with
    | ptr hf =>
      rename_i f
      split at h
      · rename_i hb
        split at h
        · rename_i inf h2
          cases h
          refine ⟨.pointer (some ⟨f.blk, f.shift + (o + n.toNat * inf.size), none⟩), ?_, .ptr hf⟩
          simp only [Instr.indexAt, asIntOf, Sem.run_bind, Sem.run_pure, Result.andThen_ok, run_underlying h1, Instr.sureAddr]
          rw [if_pos hb]
          simp only [Sem.run_bind, run_sizeOf' h2, Result.andThen_ok, Sem.run_pure, addr_add, Nat.add_assoc]
        · cases h
      · cases h
  · cases h

def fieldAddrV (P : Program) (t : TypeId) (x : Value) (f : Nat) : Option Value := match P.underlying t, x with
  | some (.struct fields), .pointer (some ⟨b, o, none⟩) => match fields[f]? with
    | some fl => match P.info? fl.type with
      | some i => if i.size = 0 then none else some (.pointer (some ⟨b, o + fl.offset, none⟩))
      | none => none
    | none => none
  | _, _ => none
theorem run_fieldAddrV {P : Program} {w : World} {ρ : Emb} {t : TypeId} {x x' v : Value} {f : Nat} (h : fieldAddrV P t x f = some v) (hx : VR P ρ x x') : ∃ v', (Instr.fieldAt t x' f).run P w = .ok v' w ∧ VR P ρ v v' := by
  unfold fieldAddrV at h
  split at h
  · rename_i fields b o h1
    cases hx with
    | ptr hf =>
      rename_i g
      split at h
      · rename_i fl h2
        split at h
        · rename_i i h3
          split at h
          · cases h
          · rename_i h0
            cases h
            refine ⟨.pointer (some ⟨g.blk, g.shift + (o + fl.offset), none⟩), ?_, .ptr hf⟩
            simp only [Instr.fieldAt, Sem.run_bind, Sem.run_pure, Result.andThen_ok, run_underlying h1, h2, Instr.sureAddr, fieldPlace, run_sizeOf' h3]
            rw [if_neg h0]
            simp only [Sem.run_pure, Result.andThen_ok, addr_add, Nat.add_assoc]
        · cases h
      · cases h
  · cases h
end Go.Proofs.YtopblipficpilaaGreatDoor.AY

/- The layer, ninth part: reading, making and writing memory. -/
namespace Go.Proofs.YtopblipficpilaaGreatDoor.AY
open Go
set_option linter.unusedVariables false
set_option linter.unusedSimpArgs false
section
variable {P : Program} {ρ : Emb} {m : Mm} {w : World}

theorem One.cell {f : Inf} {b : Blk} (h : One P ρ w f b) (hob : isObj b.elem = false) {o : Nat} {v : Value} (hv : b.cells[o]? = some v) : ∃ v', w.cell? ⟨f.blk, f.shift + o, none⟩ = some v' ∧ VR P ρ v v' := by
  obtain ⟨_, cs, el, fz, h1, _, _, h4⟩ := h.cellsOf hob
  obtain ⟨v', h5, h6⟩ := h4 o v hv
  exact ⟨v', by simp [World.cell?, h1, h5], h6⟩

theorem One.range {f : Inf} {b : Blk} (h : One P ρ w f b) (hob : isObj b.elem = false) {o n : Nat} (hn : o + n ≤ b.cells.length) :
    ∃ vs : List Value, vs.length = n ∧ VL P ρ ((b.cells.drop o).take n) vs ∧ ∀ (j : Nat) (u : Value), vs[j]? = some u → w.cell? ((⟨f.blk, f.shift + o, none⟩ : Addr).add j) = some u := by
  obtain ⟨hroom, cs, el, fz, h1, h2, _, h4⟩ := h.cellsOf hob
  refine ⟨(cs.toList.drop (f.shift + o)).take n, by simp; omega, VL.of_get (by simp; omega) ?_, ?_⟩
  · intro i v v' hv hv'
    rw [List.getElem?_take] at hv hv'
    split at hv
    · rename_i hlt
      simp only [List.getElem?_drop] at hv
      simp only [hlt, if_true, List.getElem?_drop] at hv'
      obtain ⟨v'', h5, h6⟩ := h4 (o + i) v hv
      rw [Array.getElem?_toList] at hv'
      rw [show f.shift + o + i = f.shift + (o + i) by omega, h5] at hv'
      cases hv'; exact h6
    · cases hv
  · intro j u hu
    rw [List.getElem?_take] at hu
    split at hu
    · rw [List.getElem?_drop, Array.getElem?_toList] at hu
      rw [addr_add]
      simp [World.cell?, h1, hu]
    · cases hu

/-- a new block -/
theorem HR.alloc (hr : HR P ρ m w) {id : Nat} (hid : ρ id = none) {cells : List Value} {cs : Array Value} {elem : TypeId} {fz : Nat × Nat} (hfz : fz = (0, 0) ∨ fz = (cs.size, cs.size + 1)) (hlen : cells.length ≤ cs.size)
    (hcs : ∀ (o : Nat) (v : Value), cells[o]? = some v → ∃ v', cs[o]? = some v' ∧ VR P ρ v v') {w' : World} (hw : w'.heap = w.heap.push (.cells cs elem fz)) (hio : Io w w') {rw_ : Bool} (hob : isObj elem = false) :
    HR P (updE ρ id ⟨w.heap.size, 0, cs.size, elem⟩) (updM m id ⟨cells, elem, rw_⟩) w' ∧ Ext ρ m w (updE ρ id ⟨w.heap.size, 0, cs.size, elem⟩) (updM m id ⟨cells, elem, rw_⟩) w' ∧ m id = none := by
  have hm : m id = none := by
    cases h : m id with
    | none => rfl
    | some b => obtain ⟨f, hf, _⟩ := hr.one id b h; rw [hid] at hf; cases hf
  have hsub : Sub ρ (updE ρ id ⟨w.heap.size, 0, cs.size, elem⟩) := fun i f hf => by
    unfold updE
    have : i ≠ id := by rintro rfl; rw [hid] at hf; cases hf
    simp [this, hf]
  have hold : ∀ B, B < w.heap.size → w'.heap[B]? = w.heap[B]? := fun B hB => by
    rw [hw, Array.getElem?_push]
    have : B ≠ w.heap.size := by omega
    simp [this]
  refine ⟨⟨fun i b hi => ?_, ?_⟩, ⟨hsub, by rw [hw]; simp, fun B hB _ => hold B hB, fun i f hi hf => ?_, fun i b' hi => ?_, hio⟩, hm⟩
  · unfold updM at hi
    by_cases hii : i = id
    · subst hii
      simp only [if_true, Option.some.injEq] at hi; subst hi
      refine ⟨_, by simp [updE]; rfl, rfl, .inl ⟨hob, by simpa using hlen, cs, elem, fz, by simp [hw], rfl, fun _ => ⟨rfl, hfz⟩, fun o v hv => ?_⟩, noglob hob⟩
      obtain ⟨v', h1, h2⟩ := hcs o v hv
      exact ⟨v', by simpa using h1, h2.mono hsub⟩
    · simp only [hii, if_false] at hi
      obtain ⟨f, hf, ho⟩ := hr.one i b hi
      exact ⟨f, hsub i f hf, ho.mono hsub (hold f.blk ho.lt)⟩
  · intro i j bi bj fi fj hij hi hj hrw hfi hfj
    unfold updM at hi hj
    unfold updE at hfi hfj
    by_cases hii : i = id
    · have hjj : j ≠ id := fun h => hij (hii.trans h.symm)
      simp only [hii, if_true, Option.some.injEq] at hfi
      simp only [hjj, if_false] at hfj hj
      obtain ⟨f, hf, ho⟩ := hr.one j bj hj
      rw [hfj] at hf; cases hf
      have := ho.lt
      subst hfi
      simp; omega
    · simp only [hii, if_false] at hfi hi
      by_cases hjj : j = id
      · simp only [hjj, if_true, Option.some.injEq] at hfj
        obtain ⟨f, hf, ho⟩ := hr.one i bi hi
        rw [hfi] at hf; cases hf
        have := ho.lt
        subst hfj
        simp; omega
      · simp only [hjj, if_false] at hfj hj
        exact hr.apart i j bi bj fi fj hij hi hj hrw hfi hfj
  · unfold updE at hf
    by_cases hii : i = id
    · simp only [hii, if_true, Option.some.injEq] at hf; subst hf; exact .inl (Nat.le_refl _)
    · simp only [hii, if_false] at hf; rw [hi] at hf; cases hf
  · unfold updM at hi
    by_cases hii : i = id
    · subst hii; exact .inr hid
    · simp only [hii, if_false] at hi; exact .inl ⟨b', hi, fun h => h⟩

/-- a block written -/
theorem HR.write (hr : HR P ρ m w) {id : Nat} {b : Blk} {f : Inf} (hb : m id = some b) (hob : isObj b.elem = false) (hrw : b.rw = true) (hf : ρ id = some f) {cells : List Value} {cs' : Array Value} {fz : Nat × Nat} (hsz : cs'.size = f.room)
    (hfz : fz = (0, 0) ∨ fz = (cs'.size, cs'.size + 1)) (hlen : cells.length = b.cells.length)
    (hcs : ∀ (o : Nat) (v : Value), cells[o]? = some v → ∃ v', cs'[f.shift + o]? = some v' ∧ VR P ρ v v') {w' : World} (hw : w'.heap = w.heap.setIfInBounds f.blk (.cells cs' f.elem fz)) (hio : Io w w') :
    HR P ρ (updM m id { b with cells := cells }) w' ∧ Ext ρ m w ρ (updM m id { b with cells := cells }) w' := by
  obtain ⟨f₀, hf₀, ho⟩ := hr.one id b hb
  rw [hf] at hf₀; cases hf₀
  have hlt := ho.lt
  have hoff : ∀ B, B ≠ f.blk → w'.heap[B]? = w.heap[B]? := fun B hB => by rw [hw, Array.getElem?_setIfInBounds_ne (Ne.symm hB)]
  have hother : ∀ i bi fi, i ≠ id → m i = some bi → ρ i = some fi → fi.blk ≠ f.blk := fun i bi fi hi hmi hfi => (hr.apart id i b bi f fi (Ne.symm hi) hb hmi hrw hf hfi).symm
  refine ⟨⟨fun i c hi => ?_, ?_⟩, ⟨Sub.refl ρ, by rw [hw]; simp, fun B hB hnw => ?_, fun i g hi hg => (by rw [hi] at hg; cases hg), fun i b' hi => ?_, hio⟩⟩
  · unfold updM at hi
    by_cases hii : i = id
    · subst hii
      simp only [if_true, Option.some.injEq] at hi; subst hi
      exact ⟨f, hf, ho.elem, .inl ⟨hob, by simpa [hlen] using (ho.cellsOf hob).1, cs', f.elem, fz, by rw [hw]; simp [hlt], hsz, fun _ => ⟨rfl, hfz⟩, hcs⟩, ho.glob⟩
    · simp only [hii, if_false] at hi
      obtain ⟨g, hg, hog⟩ := hr.one i c hi
      exact ⟨g, hg, hog.mono (Sub.refl ρ) (hoff _ (hother i c g hii hi hg))⟩
  · intro i j bi bj fi fj hij hi hj hr' hfi hfj
    unfold updM at hi hj
    by_cases hii : i = id
    · have hjj : j ≠ id := fun h => hij (hii.trans h.symm)
      simp only [hjj, if_false] at hj
      subst hii
      exact hr.apart i j b bj fi fj hij hb hj hrw hfi hfj
    · simp only [hii, if_false] at hi
      by_cases hjj : j = id
      · subst hjj
        exact hr.apart i j bi b fi fj hij hi hb hr' hfi hfj
      · simp only [hjj, if_false] at hj
        exact hr.apart i j bi bj fi fj hij hi hj hr' hfi hfj
  · exact hoff B fun h => hnw ⟨id, b, f, hb, hrw, hf, h.symm⟩
  · unfold updM at hi
    by_cases hii : i = id
    · subst hii; simp only [if_true, Option.some.injEq] at hi; subst hi; exact .inl ⟨b, hb, fun h => h⟩
    · simp only [hii, if_false] at hi; exact .inl ⟨b', hi, fun h => h⟩

def setR (cs : Array Value) : Nat → List Value → Array Value
  | _, [] => cs
  | k, v :: vs => setR (cs.setIfInBounds k v) (k + 1) vs
theorem setR_size (vs : List Value) : ∀ (cs : Array Value) (k : Nat), (setR cs k vs).size = cs.size := by
  induction vs with
  | nil => intro cs k; rfl
  | cons v vs ih => intro cs k; simp [setR, ih]
theorem setR_get (vs : List Value) : ∀ (cs : Array Value) (k j : Nat), k + vs.length ≤ cs.size → (setR cs k vs)[j]? = if k ≤ j ∧ j < k + vs.length then vs[j - k]? else cs[j]? := by
  induction vs with
  | nil =>
    intro cs k j h
    rw [if_neg (by simp)]
    rfl
  | cons v vs ih =>
    intro cs k j h
    simp only [List.length_cons] at h
    simp only [setR, List.length_cons]
    rw [ih _ _ _ (by simp; omega)]
    by_cases h1 : k + 1 ≤ j ∧ j < k + 1 + vs.length
    · have h2 : k ≤ j ∧ j < k + (vs.length + 1) := by omega
      simp only [h1, h2, and_self, if_true]
      rw [show j - k = (j - (k + 1)) + 1 by omega, List.getElem?_cons_succ]
    · simp only [h1, if_false]
      by_cases hjk : j = k
      · subst hjk
        have h2 : j ≤ j ∧ j < j + (vs.length + 1) := by omega
        have : j < cs.size := by omega
        simp [h2, this]
      · have h2 : ¬ (k ≤ j ∧ j < k + (vs.length + 1)) := by omega
        simp only [h2, if_false]
        rw [Array.getElem?_setIfInBounds_ne (Ne.symm hjk)]

def oneCells (vs : List Value) : Bool := vs.all Value.oneCell'
theorem VR.one {v v' : Value} (h : VR P ρ v v') : v'.oneCell' = v.oneCell' := by cases h <;> rfl
theorem VL.ones {vs vs' : List Value} (h : VL P ρ vs vs') : oneCells vs' = oneCells vs := by
  induction h with
  | nil => rfl
  | cons h _ ih => simp only [oneCells, List.all_cons, h.one] at ih ⊢; rw [ih]

theorem modify_cells (heap : Array Obj) {B : Nat} {cs : Array Value} {e : TypeId} {fz : Nat × Nat} (h : heap[B]? = some (.cells cs e fz)) (g : Obj → Obj) : heap.modify B g = heap.setIfInBounds B (g (.cells cs e fz)) := by
  obtain ⟨hlt, hv⟩ := Array.getElem?_eq_some_iff.1 h
  apply Array.ext
  · simp
  · intro i h1 h2
    have h3 : i < heap.size := by simpa using h1
    rw [Array.getElem_modify, Array.getElem_setIfInBounds (hj := h3)]
    by_cases hi : B = i
    · subst hi; simp [hv]
    · simp [hi]
theorem set_same (heap : Array Obj) {B : Nat} {x : Obj} (h : heap[B]? = some x) : heap.setIfInBounds B x = heap := by
  obtain ⟨hlt, hv⟩ := Array.getElem?_eq_some_iff.1 h
  apply Array.ext
  · simp
  · intro i h1 h2
    rw [Array.getElem_setIfInBounds (hj := h2)]
    by_cases hi : B = i
    · subst hi; simp [hv]
    · simp [hi]

theorem run_storeCells_own {B o : Nat} {e : TypeId} {fz : Nat × Nat} : ∀ (vs : List Value) (i : Nat) (w : World) (cs : Array Value), w.heap[B]? = some (.cells cs e fz) → (fz = (0, 0) ∨ fz = (cs.size, cs.size + 1)) → o + i + vs.length ≤ cs.size → oneCells vs = true →
    (storeCells ⟨B, o, none⟩ vs i).run P w = .ok () { w with heap := w.heap.setIfInBounds B (.cells (setR cs (o + i) vs) e fz) } := by
  intro vs
  induction vs with
  | nil =>
    intro i w cs h _ _ _
    have := set_same w.heap h
    simp only [storeCells, setR, Sem.run_pure, this]
  | cons v vs ih =>
    intro i w cs h hfz hlen hone
    simp only [List.length_cons] at hlen
    simp only [oneCells, List.all_cons, Bool.and_eq_true] at hone
    have hc : w.cell? ⟨B, o + i, none⟩ = some (cs[o + i]'(by omega)) := by simp [World.cell?, h]
    have hfr : w.frozen? ⟨B, o + i, none⟩ = false := by
      simp only [World.frozen?, h]
      rcases hfz with rfl | rfl
      · simp
      · simp; omega
    simp only [storeCells, addr_add, Sem.run_bind, run_store P w _ v _ hone.1, hc, hfr, Bool.false_eq_true, if_false, Result.andThen_ok]
    have hset : w.setCell ⟨B, o + i, none⟩ v = { w with heap := w.heap.setIfInBounds B (.cells (cs.setIfInBounds (o + i) v) e fz) } := by
      simp only [World.setCell]
      rw [modify_cells w.heap h]
      simp
    rw [hset]
    have hlt := (Array.getElem?_eq_some_iff.1 h).1
    rw [ih (i + 1) _ (cs.setIfInBounds (o + i) v) (by simp [hlt]) (by simpa using hfz) (by simp; omega) hone.2]
    simp only [setR, Nat.add_assoc, Array.setIfInBounds_setIfInBounds]
end
end Go.Proofs.YtopblipficpilaaGreatDoor.AY

/- The layer, tenth part: operations that read or write memory. -/
namespace Go.Proofs.YtopblipficpilaaGreatDoor.AY
open Go
set_option linter.unusedVariables false
set_option linter.unusedSimpArgs false

/-! ### reading -/
def loadV (P : Program) (m : Mm) (t : TypeId) (x : Value) : Option Value := match x with
  | .pointer (some ⟨b, o, none⟩) => match rowsOf m b, P.underlying t, P.info? t with
    | some blk, some d, some i => bif aggT d then (if o + i.size ≤ blk.cells.length then some (.agg ((blk.cells.drop o).take i.size).toArray) else none) else blk.cells[o]?
    | _, _, _ => none
  | _ => none
theorem run_loadVar {P : Program} {ρ : Emb} {m : Mm} {w : World} {t : TypeId} {x x' v : Value} (h : loadV P m t x = some v) (hx : VR P ρ x x') (hr : HR P ρ m w) :
    ∃ a v', x' = .pointer (some a) ∧ (loadVar t a).run P w = .ok v' w ∧ VR P ρ v v' := by
  unfold loadV at h
  split at h
  · rename_i b o
    cases hx with
    | ptr hf =>
      rename_i f
      split at h
      · rename_i blk d i h1 h2 h3
        obtain ⟨f', hf', hone⟩ := hr.one b blk (rowsOf_some h1).1
        have hob := (rowsOf_some h1).2
        rw [hf] at hf'; cases hf'
        cases hd : aggT d with
        | true =>
          simp only [hd, cond_true] at h
          split at h
          · rename_i hle
            cases h
            obtain ⟨vs, hl, hvl, hc⟩ := hone.range hob hle
            refine ⟨_, .agg vs.toArray, rfl, ?_, .agg hvl.vrs.1 hvl.vrs.2⟩
            have := run_loadCells_list (P := P) w ⟨f.blk, f.shift + o, none⟩ vs hc
            rw [hl] at this
            simp only [loadVar, Sem.run_bind, run_isAgg h2, hd, Result.andThen_ok, if_true, run_sizeOf' h3, this, Sem.run_pure]
          · cases h
        | false =>
          simp only [hd, cond_false] at h
          obtain ⟨v', hc, hv⟩ := hone.cell hob h
          refine ⟨_, v', rfl, ?_, hv⟩
          simp only [loadVar, Sem.run_bind, run_isAgg h2, hd, Result.andThen_ok, Bool.false_eq_true, if_false, run_load, hc]
      · cases h
  · cases h

def boundV (x : Option Value) (d y : Nat) : Option Nat := match x with
  | none => some d
  | some (.int _ i) => if 0 ≤ i ∧ i ≤ y then some i.toNat else none
  | _ => none
def sliceV (P : Program) (m : Mm) (t : TypeId) (x : Value) (lo hi mx : Option Value) : Option Value := match P.underlying t, x with
  | some .string, .string s => match mx, boundV hi s.size s.size with
    | none, some h => match boundV lo 0 h with
      | some l => some (.string (s.extract l h))
      | none => none
    | _, _ => none
  | some (.slice elem), .slice none 0 0 => match boundV mx 0 0, boundV hi 0 0, boundV lo 0 0 with
    | some _, some _, some _ => if mx.isSome && hi.isNone then none else match P.info? elem with
      | some _ => some (.slice none 0 0)
      | none => none
    | _, _, _ => none
  | some (.slice elem), .slice (some ⟨b, o, none⟩) len cap => match m b, P.info? elem with
    | some blk, some i => if P.cellsOf blk.elem = i.size ∧ ¬ (mx.isSome = true ∧ hi.isNone = true) then match boundV mx (if cap = unk then len else cap) (if cap = unk then len else cap) with
      | some mm => match boundV hi len mm with
        | some h => match boundV lo 0 h with
          | some l => some (.slice (some ⟨b, o + l * i.size, none⟩) (h - l) (if mx.isNone = true ∧ cap = unk then unk else mm - l))
          | none => none
        | none => none
      | none => none
      else none
    | _, _ => none
  | _, _ => none

/-- a bound's value, if it is there -/
inductive VO (P : Program) (ρ : Emb) : Option Value → Option Value → Prop
  | none : VO P ρ none none
  | some {v v' : Value} (h : VR P ρ v v') : VO P ρ (some v) (some v')

theorem run_boundV {P : Program} {ρ : Emb} {w : World} {x x' : Value} {d y y' n : Nat} {code : BoundsCode} (h : boundV (some x) d y = some n) (hx : VR P ρ x x') (hy : y ≤ y') :
    (Instr.sliceBound x' y' code).run P w = .ok n w ∧ n ≤ y := by
  cases hx <;> simp only [boundV] at h <;> try (cases h; done)
  rename_i k i
  split at h
  · rename_i hb
    cases h
    refine ⟨?_, by omega⟩
    simp only [Instr.sliceBound, asIntOf, Sem.run_bind, Sem.run_pure, Result.andThen_ok]
    rw [if_pos (by omega)]
    rfl
  · cases h

theorem run_sliceV {P : Program} {ρ : Emb} {m : Mm} {w : World} {t : TypeId} {x x' v : Value} {lo hi mx lo' hi' mx' : Option Value} (h : sliceV P m t x lo hi mx = some v) (hx : VR P ρ x x') (hr : HR P ρ m w)
    (hlo : VO P ρ lo lo') (hhi : VO P ρ hi hi') (hmx : VO P ρ mx mx') : ∃ v', (Instr.sliceAt t x' lo' hi' mx').run P w = .ok v' w ∧ VR P ρ v v' := by
  unfold sliceV at h
  split at h
  · rename_i s h1
    cases hx
    split at h
    · rename_i h2 hh
      split at h
      · rename_i l hl
        cases h
        cases hmx
        refine ⟨_, ?_, .string _⟩
        simp only [Instr.sliceAt, Instr.slice, Sem.run_bind, run_underlying h1, Result.andThen_ok, Option.isSome_none, Bool.false_eq_true, if_false, Instr.sliceBounds, Sem.run_pure]
        cases hhi with
        | none =>
          simp only [boundV, Option.some.injEq] at hh; subst hh
          cases hlo with
          | none => simp only [boundV, Option.some.injEq] at hl; subst hl; simp
          | some hv => simp [(run_boundV (w := w) (code := .sliceB) hl hv (Nat.le_refl _)).1]
        | some hv' =>
          simp only [Sem.run_bind]
          rw [(run_boundV (w := w) (code := .sliceAlen) hh hv' (Nat.le_refl _)).1]
          cases hlo with
          | none => simp only [boundV, Option.some.injEq] at hl; subst hl; simp
          | some hv => simp [(run_boundV (w := w) (code := .sliceB) hl hv (Nat.le_refl _)).1]
      · cases h
    · cases h
  · rename_i elem h1
    cases hx
    split at h
    · rename_i a b c ha hb hc
      split at h
      · cases h
      · rename_i hno
        split at h
        · rename_i i hi0
          cases h
          refine ⟨.slice none 0 0, ?_, .nils⟩
          simp only [Instr.sliceAt, Instr.slice, Sem.run_bind, run_underlying h1, Result.andThen_ok, Instr.sliceBounds]
          cases hmx with
          | none =>
            cases hhi with
            | none =>
              cases hlo with
              | none => simp [run_sizeOf' hi0]
              | some hv => have := run_boundV (w := w) (code := .sliceB) hc hv (Nat.le_refl _); simp [this.1, run_sizeOf' hi0, show c = 0 by omega]
            | some hv' =>
              have e1 := run_boundV (w := w) (code := .sliceAcap) hb hv' (Nat.le_refl _)
              have e0 : b = 0 := by omega
              subst e0
              cases hlo with
              | none => simp [e1.1, run_sizeOf' hi0]
              | some hv => have := run_boundV (w := w) (code := .sliceB) hc hv (Nat.le_refl _); simp [e1.1, this.1, run_sizeOf' hi0, show c = 0 by omega]
          | some hv'' =>
            have e2 := run_boundV (w := w) (code := .slice3Acap) ha hv'' (Nat.le_refl _)
            have e3 : a = 0 := by omega
            subst e3
            cases hhi with
            | none => simp at hno
            | some hv' =>
              have e1 := run_boundV (w := w) (code := .slice3B) hb hv' (Nat.le_refl _)
              have e0 : b = 0 := by omega
              subst e0
              cases hlo with
              | none => simp [e1.1, e2.1, run_sizeOf' hi0]
              | some hv => have := run_boundV (w := w) (code := .slice3C) hc hv (Nat.le_refl _); simp [e1.1, e2.1, this.1, run_sizeOf' hi0, show c = 0 by omega]
        · cases h
    · cases h
  · rename_i elem b o len cap h1
    cases hx with
    | slice hf hn hc hp hroom hsp =>
      rename_i c' p sp f
      split at h
      · rename_i blk i h2 h3
        obtain ⟨f', hf', hone⟩ := hr.one b blk h2
        rw [hf] at hf'; cases hf'
        split at h
        · rename_i hcond
          obtain ⟨hsz, hno⟩ := hcond
          have hz : P.cellsOf f.elem = i.size := by rw [hone.elem]; exact hsz
          rw [hz] at hroom
          have htop : (if cap = unk then len else cap) ≤ c' := by split <;> omega
          split at h
          · rename_i mm hmm
            split at h
            · rename_i hh hhh
              split at h
              · rename_i l hl
                cases h
                -- the three bounds in the machine's run
                have bm : ∃ mc, mm ≤ mc ∧ (mx = none → mc = c' ∧ mm = (if cap = unk then len else cap)) ∧ (mx ≠ none → mc = mm ∧ mm ≤ (if cap = unk then len else cap)) ∧ hh ≤ mc ∧ (l ≤ hh) ∧
                    (Instr.sliceBounds true len c' lo' hi' mx').run P w = .ok (l, hh, mc) w := by
                  simp only [Instr.sliceBounds]
                  cases hmx with
                  | none =>
                    simp only [boundV, Option.some.injEq] at hmm
                    refine ⟨c', by omega, fun _ => ⟨rfl, hmm.symm⟩, fun h => absurd rfl h, ?_⟩
                    cases hhi with
                    | none =>
                      simp only [boundV, Option.some.injEq] at hhh; subst hhh
                      cases hlo with
                      | none => simp only [boundV, Option.some.injEq] at hl; subst hl; simp; exact hn
                      | some hv => have e := run_boundV (w := w) (code := .sliceB) hl hv (Nat.le_refl _); simp [e.1, e.2]; exact hn
                    | some hv' =>
                      have e1 := run_boundV (w := w) (code := .sliceAcap) hhh hv' (show mm ≤ c' by omega)
                      cases hlo with
                      | none => simp only [boundV, Option.some.injEq] at hl; subst hl; simp [e1.1]; omega
                      | some hv => have e := run_boundV (w := w) (code := .sliceB) hl hv (Nat.le_refl _); simp [e1.1, e.1, e.2]; omega
                  | some hv'' =>
                    have e2 := run_boundV (w := w) (code := .slice3Acap) hmm hv'' htop
                    refine ⟨mm, Nat.le_refl _, fun h => (by cases h), fun _ => ⟨rfl, e2.2⟩, ?_⟩
                    cases hhi with
                    | none => simp at hno
                    | some hv' =>
                      have e1 := run_boundV (w := w) (code := .slice3B) hhh hv' (Nat.le_refl _)
                      cases hlo with
                      | none => simp only [boundV, Option.some.injEq] at hl; subst hl; simp [e1.1, e2.1]; omega
                      | some hv => have e := run_boundV (w := w) (code := .slice3C) hl hv (Nat.le_refl _); simp [e1.1, e2.1, e.1, e.2]; omega
                obtain ⟨mc, q1, q2, q3, q4, q5, q6⟩ := bm
                have hmc : mc ≤ c' := by
                  cases hmx with
                  | none => have := (q2 rfl).1; omega
                  | some _ => have := q3 (by simp); omega
                refine ⟨.slice (some (if mc = l then ⟨f.blk, p, sp⟩ else ⟨f.blk, p + l * i.size, none⟩)) (hh - l) (mc - l), ?_, ?_⟩
                · simp only [Instr.sliceAt, Instr.slice, Sem.run_bind, run_underlying h1, Result.andThen_ok, q6, run_sizeOf' h3, Sem.run_pure]
                  split
                  · rfl
                  · obtain rfl := hsp (by omega)
                    simp [addr_add]
                · have hexp : (if mx.isNone = true ∧ cap = unk then unk else mm - l) = mc - l ∨ (if mx.isNone = true ∧ cap = unk then unk else mm - l) = unk := by
                    cases hmx with
                    | none =>
                      obtain ⟨r1, r2⟩ := q2 rfl
                      by_cases hcu : cap = unk
                      · exact .inr (by simp [hcu])
                      · refine .inl ?_
                        simp only [hcu, and_false, if_false] at r2 ⊢
                        rcases hc with rfl | hc
                        · omega
                        · exact absurd hc hcu
                    | some _ => obtain ⟨r1, r2⟩ := q3 (by simp); exact .inl (by simp; omega)
                  have hmul : p + l * i.size + (mc - l) * i.size ≤ f.room := by
                    have : (l + (mc - l)) * i.size ≤ c' * i.size := Nat.mul_le_mul_right _ (by omega)
                    rw [Nat.add_mul] at this; omega
                  by_cases hml : mc = l
                  · rw [if_pos hml]
                    refine .slice hf (by omega) hexp ?_ (by rw [hz, show mc - l = 0 by omega]; omega) (by omega)
                    rintro (h0 | ⟨h0, h0'⟩)
                    · omega
                    · rcases hexp with h | h
                      · omega
                      · exact absurd h h0
                  · rw [if_neg hml]
                    refine .slice hf (by omega) hexp ?_ (by rw [hz]; omega) (fun _ => rfl)
                    intro hcase
                    have : p = f.shift + o := by
                      apply hp
                      by_cases hl0 : 0 < len
                      · exact .inl hl0
                      · refine .inr ?_
                        have hcu : cap ≠ unk := by
                          rintro rfl
                          simp only [if_true] at htop q2 q3
                          have hmm0 : mm = 0 := by
                            cases hmx with
                            | none => have := (q2 rfl).2; omega
                            | some _ => have := (q3 (by simp)).2; omega
                          have hh0 : hh = 0 := by
                            cases hhi with
                            | none => simp only [boundV, Option.some.injEq] at hhh; omega
                            | some hv => have := (run_boundV (w := w) (code := .slice3B) hhh hv (Nat.le_refl _)).2; omega
                          rcases hcase with h | ⟨h, h'⟩
                          · omega
                          · cases hmx with
                            | none => simp at h
                            | some _ => simp at h'; omega
                        refine ⟨hcu, ?_⟩
                        rcases hc with rfl | hc
                        · omega
                        · exact absurd hc hcu
                    omega
              · cases h
            · cases h
          · cases h
        · cases h
      · cases h
  · cases h
end Go.Proofs.YtopblipficpilaaGreatDoor.AY

/- The layer, eleventh part: blocks made; stores, appends, copies, calls. -/
namespace Go.Proofs.YtopblipficpilaaGreatDoor.AY
open Go
set_option linter.unusedVariables false
set_option linter.unusedSimpArgs false

def intsOf : List Value → Option (List Int)
  | [] => some []
  | .int .u8 n :: l => match intsOf l with
    | some r => some (n :: r)
    | none => none
  | _ :: _ => none
def strOf (ns : List Int) : ByteArray := ⟨(ns.map fun n => UInt8.ofNat n.toNat).toArray⟩
theorem fold_push (ns : List Int) : ∀ (s : ByteArray), ns.foldl (fun r n => r.push (UInt8.ofNat n.toNat)) s = ⟨s.data ++ (ns.map fun n => UInt8.ofNat n.toNat).toArray⟩ := by
  induction ns with
  | nil => intro s; simp
  | cons n ns ih => intro s; rw [List.foldl_cons, ih]; simp [ByteArray.push]
theorem intsOf_eq : ∀ {l : List Value} {ns : List Int}, intsOf l = some ns → l = ns.map (Value.int .u8)
  | [], ns, h => by simp only [intsOf, Option.some.injEq] at h; subst h; rfl
  | v :: l, ns, h => by
    cases v <;> try (simp [intsOf] at h; done)
    rename_i k n
    cases k <;> try (simp [intsOf] at h; done)
    simp only [intsOf] at h
    split at h
    · rename_i r hr
      cases h
      simp [intsOf_eq hr]
    · cases h
theorem VL.ints {P : Program} {ρ : Emb} {ns : List Int} {l' : List Value} (h : VL P ρ (ns.map (Value.int .u8)) l') : l' = ns.map (Value.int .u8) := by
  induction ns generalizing l' with
  | nil => cases h; rfl
  | cons n ns ih => cases h with | cons h h' => cases h; rw [ih h']; rfl

/-- bytes as a string -/
def strV (P : Program) (m : Mm) (src dst : TypeId) (x : Value) : Option Value := match P.underlying src, P.underlying dst, x with
  | some (.slice e), some .string, .slice none _ _ => match P.underlying e with
    | some (.int .u8) => some (.string (strOf []))
    | _ => none
  | some (.slice e), some .string, .slice (some ⟨b, o, none⟩) len _ => match P.underlying e, rowsOf m b with
    | some (.int .u8), some blk => if o + len ≤ blk.cells.length then match intsOf ((blk.cells.drop o).take len) with
        | some ns => some (.string (strOf ns))
        | none => none
      else none
    | _, _ => none
  | _, _, _ => none
theorem run_strV {P : Program} {ρ : Emb} {m : Mm} {w : World} {src dst : TypeId} {x x' v : Value} (h : strV P m src dst x = some v) (hx : VR P ρ x x') (hr : HR P ρ m w) :
    ∃ v', (convert src dst x').run P w = .ok v' w ∧ VR P ρ v v' := by
  unfold strV at h
  split at h
  · rename_i e n c h1 h2
    split at h
    · rename_i h3
      cases h; cases hx
      refine ⟨_, ?_, .string _⟩
      rw [run_convert_bytes_string w src dst e _ _ _ h1 h3 h2]
      rfl
    · cases h
  · rename_i e b o len cap h1 h2
    split at h
    · rename_i blk h3 h4
      split at h
      · rename_i hle
        split at h
        · rename_i ns hns
          cases h
          cases hx with
          | slice hf hn hc hp hroom hsp =>
            rename_i c' p sp f
            obtain ⟨f', hf', hone⟩ := hr.one b blk (rowsOf_some h4).1
            have hob := (rowsOf_some h4).2
            rw [hf] at hf'; cases hf'
            refine ⟨_, ?_, .string _⟩
            rw [run_convert_bytes_string w src dst e _ _ _ h1 h3 h2]
            have hload : (loadCells (⟨f.blk, p, sp⟩ : Addr) len).run P w = .ok (ns.map (Value.int .u8)).toArray w := by
              have hnl : ns.length = len := by
                have := congrArg List.length (intsOf_eq hns)
                simp at this; omega
              by_cases h0 : 0 < len
              · obtain rfl := hsp (by omega)
                have hpe := hp (.inl h0)
                subst hpe
                obtain ⟨vs, hl, hvl, hcell⟩ := hone.range hob hle
                rw [intsOf_eq hns] at hvl
                have hvs := hvl.ints
                subst hvs
                have := run_loadCells_list (P := P) w ⟨f.blk, f.shift + o, none⟩ _ hcell
                rw [hl] at this
                exact this
              · have : len = 0 := by omega
                subst this
                have : ns = [] := List.eq_nil_of_length_eq_zero hnl
                subst this
                rfl
            rw [run_bytesToString w _ _ _ ns hload, fold_push]
            simp [strOf]
        · cases h
      · cases h
    · cases h
  · cases h

/-- bytes of a constant: they stay as they are -/
def markV (P : Program) (m : Mm) (src dst : TypeId) (x : Value) : Option Value := match P.underlying src, x with
  | some (.slice e), .slice (some ⟨b, o, none⟩) len cap => match P.underlying e, rowsOf m b with
    | some (.int .u8), some blk => if src = dst ∧ blk.rw = true then some x else none
    | _, _ => none
  | _, _ => none
theorem updM_same {m : Mm} {id : Nat} {b : Blk} (h : m id = some b) : updM m id { b with cells := b.cells } = m := funext fun i => by
  unfold updM
  by_cases hi : i = id
  · subst hi; simp [h]
  · simp [hi]
theorem still_markV {P : Program} {o : Oper} {ev : Operand → Option Value} {m : Mm} {v x : Value} {src dst : TypeId} {p : Operand} (ho : o.op = .convert src dst p) (hx : ev p = some x) (h : markV P m src dst x = some v) : StillOk P o ev m v := by
  intro ρ a w K Q hop hr hk
  have hvr := hop.at (x := p) (by simp [ho, Op.operands]) hx
  generalize hx' : a.eval p = x' at hvr
  unfold markV at h
  split at h
  · rename_i e b off len cap h1
    split at h
    · rename_i blk h3 h4
      split at h
      · rename_i hcond
        obtain ⟨rfl, hrw⟩ := hcond
        cases h
        have hvr' := hvr
        cases hvr with
        | slice hf hn hc hp hroom hsp =>
          rename_i c' q sp f
          obtain ⟨f', hf', hone⟩ := hr.one b blk (rowsOf_some h4).1
          have hob := (rowsOf_some h4).2
          have h4 := (rowsOf_some h4).1
          rw [hf] at hf'; cases hf'
          obtain ⟨cs, fz, hh, hsz, hfz, hcs⟩ := hone.own hob hrw
          have hfz' := hfz hrw
          have hshape : w.shape? f.blk = some (f.elem, cs.size) := by simp [World.shape?, hh]
          have hrun : (execOp a.eval o).run P w = .ok (.value (.slice (some ⟨f.blk, q, sp⟩) len c')) (w.freeze ⟨f.blk, cs.size, none⟩ 1) := by
            unfold execOp
            simp only [ho, hx', Sem.run_bind, convert, run_underlying h1, Result.andThen_ok, run_underlying h3, beq_self_eq_true, markStringish, run_shape, hshape, run_freeze, Sem.run_pure]
          unfold Oper.wp
          rw [hrun]
          have hheap : (w.freeze ⟨f.blk, cs.size, none⟩ 1).heap = w.heap.setIfInBounds f.blk (.cells cs f.elem (cs.size, cs.size + 1)) := by
            simp only [World.freeze]
            rw [if_neg (by decide)]
            simp only []
            rw [modify_cells w.heap hh]
            rcases hfz' with rfl | rfl <;> simp
          obtain ⟨q1, q2⟩ := hr.write h4 hob hrw hf hsz (.inr rfl) rfl hcs hheap (Io.freeze _ _ _)
          rw [updM_same h4] at q1 q2
          exact hk _ _ hvr' q1 q2
      · cases h
    · cases h
  · cases h

/-! ### blocks made -/
def ptrTo (id : Nat) : Value := .pointer (some ⟨id, 0, none⟩)
def rowTo (n c id : Nat) : Value := .slice (some ⟨id, 0, none⟩) n c

theorem AllocOk.of_run {P : Program} {o : Oper} {ev : Operand → Option Value} {cells : List Value} {elem : TypeId} {mk : Nat → Value} (hob : isObj elem = false)
    (h : ∀ ρ a w, Opnds P ρ ev o a → ∃ v' cs fz w', (execOp a.eval o).run P w = .ok (.value v') w' ∧ (w'.heap = w.heap.push (.cells cs elem fz) ∧ Io w w') ∧ (fz = (0, 0) ∨ fz = (cs.size, cs.size + 1)) ∧ cells.length ≤ cs.size ∧
      (∀ (i : Nat) (v : Value), cells[i]? = some v → ∃ v', cs[i]? = some v' ∧ VR P ρ v v') ∧ ∀ ρ' id, ρ' id = some ⟨w.heap.size, 0, cs.size, elem⟩ → VR P ρ' (mk id) v') : AllocOk P o ev ⟨cells, elem, true⟩ mk := by
  intro ρ m a w id K Q hop hr hid hk
  obtain ⟨v', cs, fz, w', h1, h2, h3, h4, h5, h6⟩ := h ρ a w hop
  obtain ⟨q1, q2, q3⟩ := hr.alloc hid h3 h4 h5 h2.1 h2.2 hob (rw_ := true)
  unfold Oper.wp
  rw [h1]
  exact hk v' _ w' (h6 _ id (by simp [updE])) q1 q2

theorem ptr_new {P : Program} {ρ : Emb} {n s id : Nat} {e : TypeId} (h : ρ id = some ⟨n, 0, s, e⟩) : VR P ρ (ptrTo id) (.pointer (some ⟨n, 0, none⟩)) := by
  have := VR.ptr (P := P) (o := 0) h
  simpa [ptrTo] using this
theorem row_new {P : Program} {ρ : Emb} {n s id l c c' : Nat} {e : TypeId} (h : ρ id = some ⟨n, 0, s, e⟩) (hl : l ≤ c') (hc : c = c' ∨ c = unk) (hs : c' * P.cellsOf e ≤ s) : VR P ρ (rowTo l c id) (.slice (some ⟨n, 0, none⟩) l c') :=
  VR.slice (P := P) (p := 0) h hl hc (fun _ => rfl) (by simpa using hs) (fun _ => rfl)

def zcells (z : Array Value) (n : Nat) : List Value := (List.range n).map fun i => z[i % z.size]!
theorem zcells_eq (z : Array Value) (n : Nat) : ((Array.range n).map fun i => z[i % z.size]!).toList = zcells z n := by simp [zcells]

def allocA0 (P : Program) (ev : Operand → Option Value) (op : Op) : Option (Blk × (Nat → Value)) := match op with
  | .alloc t => match zeroC P t with
    | some z => some (⟨z.toList, t, true⟩, ptrTo)
    | none => none
  | .box t x => match ev x with
    | some v => some (⟨v.cells.toList, t, true⟩, ptrTo)
    | none => none
  | .buildSlice t len parts => match P.underlying t, evP ev parts.toList with
    | some (.slice e), some ps => match P.info? e with
      | some i => if len * i.size ≤ 16777216 then match (if len * i.size = 0 then some #[] else zeroC P e) with
          | some z => match Instr.fill (fun n => some (n * i.size, i.size)) ((Array.range (len * i.size)).map (z[· % z.size]!)) ps with
            | some r => if r.size = len * i.size ∧ plains z = true ∧ (len * i.size = 0 ∨ z.size ≠ 0) then some (⟨r.toList, e, true⟩, rowTo len len) else none
            | none => none
          | none => none
        else none
      | none => none
    | _, _ => none
  | .makeSlice t l c => match P.underlying t, ev l, ev c with
    | some (.slice e), some (.int _ l), some (.int _ c) => match P.info? e with
      | some i => if 0 ≤ l ∧ l ≤ c ∧ c ≤ 281474976710656 ∧ i.bytes * c ≤ 281474976710656 then match (if c.toNat * i.size = 0 then some #[] else zeroC P e) with
          | some z => if plains z = true ∧ (c.toNat * i.size = 0 ∨ z.size ≠ 0) then some (⟨zcells z (c.toNat * i.size), e, true⟩, rowTo l.toNat c.toNat) else none
          | none => none
        else none
      | none => none
    | _, _, _ => none
  | .convert src dst x => match P.underlying src, P.underlying dst, ev x with
    | some .string, some (.slice e), some (.string s) => match P.underlying e with
      | some (.int .u8) => if P.cellsOf e = 1 then some (⟨s.data.toList.map fun b => .int .u8 b.toNat, e, true⟩, rowTo s.size unk) else none
      | _ => none
    | _, _, _ => none
  | _ => none

def allocA (P : Program) (ev : Operand → Option Value) (op : Op) : Option (Blk × (Nat → Value)) := match op with
  | .makeMap _ none => some (⟨[.int .i64 (0 : Nat)], mapTag, true⟩, fun id => .map (some id))
  | op => match allocA0 P ev op with
    | some (b, mk) => bif isObj b.elem then none else some (b, mk)
    | none => none

theorem VL.at {P : Program} {ρ : Emb} {l l' : List Value} (h : VL P ρ l l') (i : Nat) (v : Value) (hv : l[i]? = some v) : ∃ v', l'[i]? = some v' ∧ VR P ρ v v' := by
  have hlt : i < l'.length := by rw [← h.length]; exact (List.getElem?_eq_some_iff.1 hv).1
  exact ⟨l'[i], by simp [hlt], h.get hv (by simp [hlt])⟩
theorem VRs.at {P : Program} {ρ : Emb} {l l' : Array Value} (h : VRs P ρ l l') (i : Nat) (v : Value) (hv : l.toList[i]? = some v) : ∃ v', l'[i]? = some v' ∧ VR P ρ v v' := h.get (by simpa using hv)

theorem plains_range {z : Array Value} (h : plains z = true) (n : Nat) (hn : n = 0 ∨ z.size ≠ 0) : plains ((Array.range n).map fun i => z[i % z.size]!) = true := by
  unfold plains at *
  rw [zcells_eq]
  unfold zcells
  rw [List.all_map, List.all_eq_true]
  intro i hi
  rw [List.mem_range] at hi
  have hz : z.size ≠ 0 := hn.resolve_left (by omega)
  have hlt : i % z.size < z.size := Nat.mod_lt _ (by omega)
  rw [List.all_eq_true] at h
  simp only [Function.comp, getElem!_pos z (i % z.size) hlt]
  exact h _ (by simp)
end Go.Proofs.YtopblipficpilaaGreatDoor.AY

/- The layer, twelfth part: blocks made: the proof; stores, appends, copies, calls. -/
namespace Go.Proofs.YtopblipficpilaaGreatDoor.AY
open Go
set_option linter.unusedVariables false
set_option linter.unusedSimpArgs false

theorem cellsOf_eq {P : Program} {t : TypeId} {i : TypeInfo} (h : P.info? t = some i) : P.cellsOf t = i.size := by simp [Program.cellsOf, h]

theorem allocA0_ok {P : Program} {o : Oper} {ev : Operand → Option Value} {b : Blk} {mk : Nat → Value} (h : allocA0 P ev o.op = some (b, mk)) (hob : isObj b.elem = false) : AllocOk P o ev b mk := by
  unfold allocA0 at h
  split at h
  · rename_i t ho
    split at h
    · rename_i z hz
      cases h
      refine AllocOk.of_run hob fun ρ a w hop => ?_
      obtain ⟨zv, h1, h2, h3⟩ := run_zeroC (w := w) hz
      subst h2
      refine ⟨_, zv.cells, (0, 0), { w with heap := w.heap.push (.cells zv.cells t) }, ?_, ⟨rfl, Io.refl w⟩, .inl rfl, Nat.le_of_eq (by simp), fun i v hv => (plains_self h3).at i v hv, fun ρ' id hid => ptr_new hid⟩
      unfold execOp
      simp only [ho, Instr.alloc, Sem.run_bind, h1, Result.andThen_ok, newVar, newRow, run_newObj, Sem.run_pure]
    · cases h
  · rename_i t x ho
    split at h
    · rename_i v hv
      cases h
      refine AllocOk.of_run hob fun ρ a w hop => ?_
      have hx := (hop.at (x := x) (by simp [ho, Op.operands]) hv).cells
      refine ⟨_, (a.eval x).cells, (0, 0), { w with heap := w.heap.push (.cells (a.eval x).cells t) }, ?_, ⟨rfl, Io.refl w⟩, .inl rfl, Nat.le_of_eq (by simpa using hx.length), fun i v hv => by simpa using hx.at i v hv, fun ρ' id hid => ptr_new hid⟩
      unfold execOp
      simp only [ho, Instr.box, Sem.run_bind, newVar, newRow, run_newObj, Result.andThen_ok, Sem.run_pure]
    · cases h
  · rename_i t len parts ho
    split at h
    · rename_i e ps h1 h2
      split at h
      · rename_i i h3
        split at h
        · rename_i hle
          split at h
          · rename_i z hz
            split at h
            · rename_i r hr
              split at h
              · rename_i hcond
                obtain ⟨hsz, hpl, hz0⟩ := hcond
                cases h
                refine AllocOk.of_run hob fun ρ a w hop => ?_
                have hps := evP_at (ρ := ρ) (P := P) (cv := a.eval) (xs := parts.toList) (vs := ps) (fun p hp v hv => hop.at (x := p.2) (by simp only [ho, Op.operands]; simp; exact ⟨p.1, by simpa using hp⟩) hv) h2
                obtain ⟨r', h7, h8⟩ := fill_at hps (plains_self (plains_range hpl _ hz0)) hr
                refine ⟨_, r', (0, 0), { w with heap := w.heap.push (.cells r' e) }, ?_, ⟨rfl, Io.refl w⟩, .inl rfl, Nat.le_of_eq (by simpa using h8.1), fun i v hv => h8.at i v hv, fun ρ' id hid => row_new hid (Nat.le_refl _) (.inl rfl) (by rw [cellsOf_eq h3, ← h8.1, hsz]; exact Nat.le_refl _)⟩
                unfold execOp
                have hle' : ¬ (len * i.size > 2 ^ 24) := by omega
                have h7' : Instr.fill (fun n => some (n * i.size, i.size)) ((Array.range (len * i.size)).map fun n => z[n % z.size]!) (parts.toList.map fun p => (p.1, a.eval p.2)) = some r' := h7
                simp only [ho, Instr.buildSlice, Sem.run_bind, run_underlying h1, Result.andThen_ok, run_sizeOf' h3]
                rw [if_neg hle']
                by_cases h0 : len * i.size = 0
                · rw [if_pos h0] at hz; cases hz
                  rw [if_pos h0]
                  simp only [Sem.run_bind, Sem.run_pure, Result.andThen_ok, Array.toList_map, h7', newRow, run_newObj]
                · rw [if_neg h0] at hz
                  obtain ⟨zv, q1, q2, q3⟩ := run_zeroC (w := w) hz
                  rw [if_neg h0]
                  simp only [Sem.run_bind, Sem.run_pure, Result.andThen_ok, q1, q2, Array.toList_map, h7', newRow, run_newObj]
              · cases h
            · cases h
          · cases h
        · cases h
      · cases h
    · cases h
  · rename_i t lo co ho
    split at h
    · rename_i e k l k' c h1 hl hc
      split at h
      · rename_i i h3
        split at h
        · rename_i hb
          obtain ⟨b1, b2, b3, b4⟩ := hb
          split at h
          · rename_i z hz
            split at h
            · rename_i hcond
              obtain ⟨hpl, hz0⟩ := hcond
              cases h
              refine AllocOk.of_run hob fun ρ a w hop => ?_
              have e1 := hop.at (x := lo) (by simp [ho, Op.operands]) hl
              have e2 := hop.at (x := co) (by simp [ho, Op.operands]) hc
              generalize hx1 : a.eval lo = x1 at e1
              generalize hx2 : a.eval co = x2 at e2
              cases e1; cases e2
              have hsl := plains_self (P := P) (ρ := ρ) (plains_range hpl (c.toNat * i.size) hz0)
              refine ⟨_, (Array.range (c.toNat * i.size)).map fun n => z[n % z.size]!, (0, 0), { w with heap := w.heap.push (.cells ((Array.range (c.toNat * i.size)).map fun n => z[n % z.size]!) e) }, ?_, ⟨rfl, Io.refl w⟩, .inl rfl, Nat.le_of_eq (by simp [zcells]), fun j v hv => hsl.at j v (by rw [zcells_eq]; exact hv),
                fun ρ' id hid => row_new hid (by omega) (.inl rfl) (by rw [cellsOf_eq h3]; simp)⟩
              have w1 : IntKind.i64.wrap l = l := by unfold IntKind.wrap; simp [IntKind.bits, IntKind.signed]; omega
              have w2 : IntKind.i64.wrap c = c := by unfold IntKind.wrap; simp [IntKind.bits, IntKind.signed]; omega
              have ht : ((decide (c < 0) || decide ((i.bytes : Int) * c > 2 ^ 48)) || decide (l < 0) || decide (l > c)) = false := by
                simp only [Bool.or_eq_false_iff, decide_eq_false_iff_not]
                refine ⟨⟨⟨by omega, ?_⟩, by omega⟩, by omega⟩
                have : (2 : Int) ^ 48 = 281474976710656 := by decide
                omega
              have hti : (typeInfo e).run P w = .ok i w := by simp [typeInfo, h3]
              unfold execOp
              simp only [ho, hx1, hx2, Instr.makeSlice, Sem.run_bind, run_underlying h1, Result.andThen_ok, asInt, asIntOf, Sem.run_pure, hti, w1, w2]
              rw [if_neg (by rw [ht]; simp)]
              simp only [Sem.run_bind, run_askRoom, Result.andThen_ok, run_sizeOf' h3]
              by_cases h0 : c.toNat * i.size = 0
              · rw [if_pos h0] at hz; cases hz
                rw [if_pos h0]
                simp only [Sem.run_bind, Sem.run_pure, Result.andThen_ok, newRow, run_newObj]
              · rw [if_neg h0] at hz
                obtain ⟨zv, q1, q2, q3⟩ := run_zeroC (w := w) hz
                rw [if_neg h0]
                simp only [Sem.run_bind, Sem.run_pure, Result.andThen_ok, q1, q2, newRow, run_newObj]
            · cases h
          · cases h
        · cases h
      · cases h
    · cases h
  · rename_i src dst x ho
    split at h
    · rename_i e s h1 h2 hx
      split at h
      · rename_i h3
        split at h
        · rename_i h4
          cases h
          refine AllocOk.of_run hob fun ρ a w hop => ?_
          have e1 := hop.at (x := x) (by simp [ho, Op.operands]) hx
          generalize hx1 : a.eval x = x1 at e1
          cases e1
          let cap := (Question.appendCap s.size 0 e).cut (w.tape w.drawn (.appendCap s.size 0 e))
          have hcap : s.size ≤ cap := by simp only [cap, Question.cut]; omega
          let cs : Array Value := (s.data.map fun b => Value.int .u8 b.toNat) ++ Array.replicate (cap - s.size) (.int .u8 0)
          have hcs : cs.size = cap := by simp only [cs, Array.size_append, Array.size_map, Array.size_replicate]; have : s.data.size = s.size := rfl; omega
          let w1 : World := { w with drawn := w.drawn + 1, heap := w.heap.push (.cells cs e) }
          have hh : w1.heap[w.heap.size]? = some (.cells cs e (0, 0)) := by simp [w1]
          refine ⟨.slice (some ⟨w.heap.size, 0, none⟩) s.size cap, cs, (cs.size, cs.size + 1), w1.freeze ⟨w.heap.size, cs.size, none⟩ 1, ?_, ?_, .inr rfl, ?_, ?_, fun ρ' id hid => row_new hid hcap (.inr rfl) (by rw [h4, hcs]; omega)⟩
          · have hshape : w1.shape? w.heap.size = some (e, cs.size) := by simp [World.shape?, hh]
            have hq : (Question.appendCap s.size 0 e).forced = false := rfl
            unfold execOp
            simp only [ho, hx1, Sem.run_bind, convert, run_underlying h1, run_underlying h2, Result.andThen_ok, run_underlying h3, Conv.stringToBytes, run_choose, hq, Bool.false_eq_true, if_false, newRow, run_newObj, markStringish, run_shape]
            simp only [Sem.run_bind, Sem.run_pure, run_newObj, Result.andThen_ok]
            rw [show ({ heap := w.heap.push (Obj.cells (Array.map (fun b => Value.int IntKind.u8 ↑b.toNat) s.data ++ Array.replicate (Question.cut (Question.appendCap s.size 0 e) (w.tape w.drawn (Question.appendCap s.size 0 e)) - s.size) (Value.int IntKind.u8 0)) e), tape := w.tape, drawn := w.drawn + 1, os := w.os, output := w.output } : World) = w1 from rfl]
            simp only [run_shape, Result.andThen_ok, hshape, run_freeze, Sem.run_pure]
            rfl
          · refine ⟨?_, (show Io w w1 from ⟨rfl, rfl, rfl⟩).trans (Io.freeze _ _ _)⟩
            simp only [World.freeze]
            rw [if_neg (by decide)]
            simp only []
            rw [modify_cells w1.heap hh]
            apply Array.ext
            · simp [w1]
            · intro j hj1 hj2
              simp only [w1] at hj1 ⊢
              rw [Array.getElem_setIfInBounds (hj := by simpa using hj1)]
              simp only [Array.getElem_push]
              by_cases hj : w.heap.size = j
              · subst hj; simp
              · have : j < w.heap.size := by simp at hj1; omega
                simp [hj, this]
          · have : s.data.toList.length = s.size := rfl
            simp only [List.length_map]; omega
          · intro i v hv
            refine ⟨v, ?_, ?_⟩
            · rw [List.getElem?_map] at hv
              have hlt : i < s.data.size := by
                cases hg : s.data.toList[i]? with
                | none => rw [hg] at hv; cases hv
                | some b => simpa using (List.getElem?_eq_some_iff.1 hg).1
              simp only [cs]
              rw [Array.getElem?_append_left (by simpa using hlt)]
              simpa using hv
            · rw [List.getElem?_map] at hv
              cases hg : s.data.toList[i]? with
              | none => rw [hg] at hv; cases hv
              | some b => rw [hg] at hv; cases hv; exact .int _ _
        · cases h
      · cases h
    · cases h
  · cases h
theorem allocA_ok0 {P : Program} {o : Oper} {ev : Operand → Option Value} {b : Blk} {mk : Nat → Value} (h : (match allocA0 P ev o.op with | some (b, mk) => bif isObj b.elem then none else some (b, mk) | none => none) = some (b, mk)) : AllocOk P o ev b mk ∧ Option.isSome (allocA0 P ev o.op) = true := by
  split at h
  · rename_i b' mk' h0
    cases hob : isObj b'.elem with
    | true => simp [hob] at h
    | false =>
      simp only [hob, cond_false, Option.some.injEq, Prod.mk.injEq] at h
      obtain ⟨rfl, rfl⟩ := h
      exact ⟨allocA0_ok h0 hob, by rw [h0]; rfl⟩
  · cases h
end Go.Proofs.YtopblipficpilaaGreatDoor.AY

/- The layer, thirteenth part: stores, appends, copies, calls. -/
namespace Go.Proofs.YtopblipficpilaaGreatDoor.AY
open Go
set_option linter.unusedVariables false
set_option linter.unusedSimpArgs false

/-- what an effect's run comes to -/
theorem EffOk.of_run {P : Program} {o : Oper} {ev : Operand → Option Value} {M M' : Mem} {v : Value}
    (h : ∀ ρ a w, Opnds P ρ ev o a → HR P ρ M.get w → Free ρ M.next → ∃ v' ρ' w', ((execOp a.eval o).run P w = .ok (.value v') w' ∨ ((execOp a.eval o).run P w = .ok .skip w' ∧ v' = undef)) ∧
      VR P ρ' v v' ∧ HR P ρ' M'.get w' ∧ Free ρ' M'.next ∧ Grow ρ M w ρ' M' w') : EffOk P o ev M v M' := by
  intro ρ a w K Q hop hr hf hk
  obtain ⟨v', ρ', w', hrun, h1, h2, h3, h4⟩ := h ρ a w hop hr hf
  unfold Oper.wp
  rcases hrun with hrun | ⟨hrun, rfl⟩
  · rw [hrun]; exact hk v' ρ' w' h1 h2 h3 h4
  · rw [hrun]; exact hk undef ρ' w' h1 h2 h3 h4

def splice (l : List Value) (k : Nat) (vs : List Value) : List Value := l.take k ++ (vs ++ l.drop (k + vs.length))
theorem splice_length {l : List Value} {k : Nat} {vs : List Value} (h : k + vs.length ≤ l.length) : (splice l k vs).length = l.length := by simp [splice]; omega
theorem splice_get {l : List Value} {k : Nat} {vs : List Value} (h : k + vs.length ≤ l.length) (j : Nat) : (splice l k vs)[j]? = if k ≤ j ∧ j < k + vs.length then vs[j - k]? else l[j]? := by
  unfold splice
  by_cases h1 : j < k
  · rw [List.getElem?_append_left (by simp; omega), List.getElem?_take, if_pos h1, if_neg (by omega)]
  · rw [List.getElem?_append_right (by simp; omega)]
    have hl : (l.take k).length = k := by simp; omega
    rw [hl]
    by_cases h2 : j < k + vs.length
    · rw [List.getElem?_append_left (by omega), if_pos ⟨by omega, h2⟩]
    · rw [List.getElem?_append_right (by omega), if_neg (by omega), List.getElem?_drop]
      congr 1; omega

def storeE (P : Program) (M : Mem) (t : TypeId) (x v : Value) : Option Mem := match x with
  | .pointer (some ⟨b, o, none⟩) => match rowsOf M.get b, P.info? t with
    | some blk, some i => if blk.rw = true ∧ v.cells.size = i.size ∧ oneCells v.cells.toList = true ∧ o + i.size ≤ blk.cells.length then some (M.put b { blk with cells := splice blk.cells o v.cells.toList }) else none
    | _, _ => none
  | _ => none

theorem put_get (M : Mem) (b : Nat) (blk : Blk) : (M.put b blk).get = updM M.get b blk := funext fun i => Mem.get_put M b i blk

theorem storeE_ok {P : Program} {o : Oper} {ev : Operand → Option Value} {M M' : Mem} {t : TypeId} {p q : Operand} {x v : Value} (ho : o.op = .store t p q) (hx : ev p = some x) (hv : ev q = some v) (h : storeE P M t x v = some M') :
    EffOk P o ev M undef M' := by
  refine EffOk.of_run fun ρ a w hop hr hf => ?_
  have e1 := hop.at (x := p) (by simp [ho, Op.operands]) hx
  have e2 := hop.at (x := q) (by simp [ho, Op.operands]) hv
  generalize hx' : a.eval p = x' at e1
  generalize hv' : a.eval q = v' at e2
  unfold storeE at h
  split at h
  · rename_i b off
    split at h
    · rename_i blk i h1 h2
      split at h
      · rename_i hc
        obtain ⟨c1, c2, c3, c4⟩ := hc
        cases h
        cases e1 with
        | ptr hfb =>
          rename_i f
          obtain ⟨f', hf', hone⟩ := hr.one b blk (rowsOf_some h1).1
          have hob := (rowsOf_some h1).2
          have h1 := (rowsOf_some h1).1
          rw [hfb] at hf'; cases hf'
          obtain ⟨cs, fz, g1, g2, g3, g4⟩ := hone.own hob c1
          have hcl := e2.cells
          have hsz : v'.cells.size = i.size := by have := hcl.length; simp at this; omega
          have hroom := (hone.cellsOf hob).1
          have hlen : f.shift + off + 0 + v'.cells.toList.length ≤ cs.size := by simp; omega
          have hrun := run_storeCells_own (P := P) (o := f.shift + off) v'.cells.toList 0 w cs g1 (g3 c1) hlen (by rw [hcl.ones]; exact c3)
          have hex : (execOp a.eval o).run P w = .ok .skip { w with heap := w.heap.setIfInBounds f.blk (.cells (setR cs (f.shift + off + 0) v'.cells.toList) f.elem fz) } := by
            unfold execOp
            simp only [ho, hx', hv', Instr.storeAt, Instr.sureAddr, Sem.run_bind, Sem.run_pure, Result.andThen_ok, storeVar, run_sizeOf' h2]
            rw [if_neg (by simp [hsz])]
            rw [hrun]
            rfl
          have hspl : off + v.cells.toList.length ≤ blk.cells.length := by simp; omega
          obtain ⟨q1, q2⟩ := hr.write (cells := splice blk.cells off v.cells.toList) (cs' := setR cs (f.shift + off + 0) v'.cells.toList) (fz := fz) h1 hob c1 hfb (by rw [setR_size]; exact g2) (by rw [setR_size]; exact g3 c1) (splice_length hspl) (fun j u hu => by
            rw [splice_get hspl] at hu
            rw [setR_get _ _ _ _ hlen]
            by_cases hj : off ≤ j ∧ j < off + v.cells.toList.length
            · rw [if_pos hj] at hu
              have hl := hcl.length
              rw [if_pos (by omega)]
              have := hcl.at _ _ hu
              rw [show f.shift + j - (f.shift + off + 0) = j - off by omega]
              exact this
            · rw [if_neg hj] at hu
              have hl := hcl.length
              rw [if_neg (by omega)]
              exact g4 j u hu) (w' := { w with heap := w.heap.setIfInBounds f.blk (.cells (setR cs (f.shift + off + 0) v'.cells.toList) f.elem fz) }) rfl ⟨rfl, rfl, rfl⟩
          refine ⟨undef, ρ, _, .inr ⟨hex, rfl⟩, VR.undef P ρ, by rw [put_get]; exact q1, (by rw [Mem.next_put]; exact hf), ⟨by rw [put_get]; exact q2, fun _ _ h => h, Nat.le_of_eq (Mem.next_put _ _ _).symm⟩⟩
      · cases h
    · cases h
  · cases h

/-- how many there are of what is appended, and their cells -/
def contentV (m : Mm) (sz : Nat) (x : Value) : Option (Nat × List Value) := match x with
  | .slice none _ _ => some (0, [])
  | .slice (some ⟨b, o, none⟩) n _ => if n = 0 then some (0, []) else match rowsOf m b with
    | some blk => if o + n * sz ≤ blk.cells.length then some (n, (blk.cells.drop o).take (n * sz)) else none
    | none => none
  | .string s => if sz = 1 then some (s.size, s.data.toList.map fun b => .int .u8 b.toNat) else none
  | _ => none

theorem run_content {P : Program} {ρ : Emb} {m : Mm} {w : World} {sz : Nat} {x x' : Value} {n : Nat} {vs : List Value} (h : contentV m sz x = some (n, vs)) (hx : VR P ρ x x') (hr : HR P ρ m w) :
    Builtin.lenOf x' = pure n ∧ ∃ vs', vs'.length = n * sz ∧ VL P ρ vs vs' ∧ ∀ w', (∀ B, B < w.heap.size → w'.heap[B]? = w.heap[B]?) → (Builtin.firstCells sz n x').run P w' = .ok vs'.toArray w' := by
  unfold contentV at h
  split at h
  · cases h; cases hx
    exact ⟨rfl, [], by simp, .nil, fun w' _ => by simp [Builtin.firstCells]⟩
  · rename_i b o k c
    cases hx with
    | slice hf hn hc hp hroom hsp =>
      rename_i c' p sp f
      split at h
      · rename_i h0
        cases h
        subst h0
        exact ⟨rfl, [], by simp, .nil, fun w' _ => by simp only [Builtin.firstCells, Nat.zero_mul]; rfl⟩
      · rename_i h0
        split at h
        · rename_i blk hb
          split at h
          · rename_i hle
            cases h
            obtain ⟨f', hf', hone⟩ := hr.one b blk (rowsOf_some hb).1
            have hob := (rowsOf_some hb).2
            rw [hf] at hf'; cases hf'
            obtain ⟨us, hl, hvl, hcell⟩ := hone.range hob hle
            refine ⟨rfl, us, hl, hvl, fun w' hw' => ?_⟩
            have hpe := hp (.inl (by omega))
            subst hpe
            obtain rfl := hsp (by omega)
            refine run_firstCells_some w' sz n _ _ _ us hl fun j u hu => ?_
            have := hcell j u hu
            rw [addr_add] at this ⊢
            unfold World.cell? at this ⊢
            rw [hw' f.blk hone.lt]; exact this
          · cases h
        · cases h
  · rename_i s
    split at h
    · rename_i h1
      cases h; cases hx
      subst h1
      have hs : s.size = s.data.size := rfl
      refine ⟨rfl, s.data.toList.map fun b => .int .u8 b.toNat, by rw [List.length_map, Nat.mul_one]; rfl, ?_, fun w' _ => ?_⟩
      · refine VL.of_get rfl fun i v v' hv hv' => ?_
        rw [hv] at hv'; cases hv'
        rw [List.getElem?_map] at hv
        cases hg : s.data.toList[i]? with
        | none => rw [hg] at hv; cases hv
        | some b => rw [hg] at hv; cases hv; exact .int _ _
      · have he : s.extract 0 s.size = s := ByteArray.ext (by rw [ByteArray.data_extract]; exact Array.extract_size)
        simp only [Builtin.firstCells, he, Sem.run_pure]
        congr 1
        apply Array.ext'
        rw [Array.toList_map]
    · cases h
  · cases h

def isInt : TypeDesc → Bool
  | .int _ => true
  | _ => false

def grownE (P : Program) (M : Mem) (e : TypeId) (cells : List Value) (n : Nat) : Value × Mem := (rowTo n unk M.next, (M.put M.next ⟨cells, e, true⟩).bump 1)
theorem grownE_next (P : Program) (M : Mem) (e : TypeId) (cells : List Value) (n : Nat) : (grownE P M e cells n).2.next = M.next + 1 := by
  show ((M.put M.next ⟨cells, e, true⟩).bump 1).next = _
  rw [Mem.next_bump, Mem.next_put]
def appendE (P : Program) (M : Mem) (t tx : TypeId) (s x : Value) : Option (Value × Mem) := match P.underlying t, P.underlying tx with
  | some (.slice e), some d => match P.info? e, zeroC P e with
    | some i, some z => if isObj e = true ∨ isInt d = true ∨ i.bytes = 0 ∨ z.size ≠ i.size then none else match contentV M.get i.size s, contentV M.get i.size x with
      | some (k, olds), some (n, news) => match s with
          | .slice none _ _ => if n = 0 then some (s, M) else if (k + n) * i.bytes ≤ 140737488355328 then some (grownE P M e (olds ++ news) (k + n)) else none
          | .slice (some ⟨b, o, none⟩) k' c => if n = 0 then some (s, M) else if (k + n) * i.bytes ≤ 140737488355328 ∧ k = k' ∧ oneCells news = true then
              if c ≠ unk ∧ c < k + n then some (grownE P M e (olds ++ news) (k + n)) else match rowsOf M.get b with
              | some blk => if blk.rw = true ∧ blk.elem = e then some (grownE P (M.del b) e (olds ++ news) (k + n)) else none
              | none => none
            else none
          | _ => none
      | _, _ => none
    | _, _ => none
  | _, _ => none

theorem run_append_in {P : Program} {w : World} {t tx ty e : TypeId} {i : TypeInfo} {d : TypeDesc} (ht : P.underlying t = some (.slice e)) (htx : P.underlying tx = some d) (hd : isInt d = false) (hi : P.info? e = some i)
    {base : Option Addr} {k c n : Nat} {x : Value} {news : List Value} (hl : Builtin.lenOf x = pure n) (hn : (Builtin.firstCells i.size n x).run P w = .ok news.toArray w) (hc : k + n ≤ c) :
    (Builtin.append_ #[t, tx] ty #[.slice base k c, x]).run P w = match base with
      | some a => ((storeCells (a.add (k * i.size)) news).run P w).andThen fun _ w' => .ok (.slice base (k + n) c) w'
      | none => .ok (.slice base (k + n) c) w := by
  cases d <;> first
    | (simp [isInt] at hd; done)
    | (simp only [Builtin.append_, List.getElem?_toArray, List.getElem?_cons_zero, List.getElem?_cons_succ, Sem.run_bind, run_underlying ht, run_underlying htx, Result.andThen_ok, run_sizeOf' hi, hl, Sem.run_pure, Bool.false_eq_true, if_false, Bool.not_false, if_true]
       rw [if_pos hc]
       cases base <;> simp only [Sem.run_bind, hn, Result.andThen_ok, Sem.run_pure])

theorem run_append_out {P : Program} {w : World} {t tx ty e : TypeId} {i : TypeInfo} {d : TypeDesc} (ht : P.underlying t = some (.slice e)) (htx : P.underlying tx = some d) (hd : isInt d = false) (hi : P.info? e = some i) {z : Value} (hz : ∀ w, (zeroValue e).run P w = .ok z w)
    {base : Option Addr} {k c n : Nat} {x : Value} {olds news : List Value} (hb0 : i.bytes ≠ 0) (hl : Builtin.lenOf x = pure n) (ho : ∀ w', (∀ B, B < w.heap.size → w'.heap[B]? = w.heap[B]?) → (Builtin.firstCells i.size k (.slice base k c)).run P w' = .ok olds.toArray w')
    (hn : ∀ w', (∀ B, B < w.heap.size → w'.heap[B]? = w.heap[B]?) → (Builtin.firstCells i.size n x).run P w' = .ok news.toArray w') (hc : c < k + n) (hb : (k + n) * i.bytes ≤ 140737488355328) :
    (Builtin.append_ #[t, tx] ty #[.slice base k c, x]).run P w =
      .ok (.slice (some ⟨w.heap.size, 0, none⟩) (k + n) (grownCap w (k + n) c e)) { w with drawn := w.drawn + 1, heap := w.heap.push (.cells (olds.toArray ++ news.toArray ++ Builtin.zeroCells z.cells (grownCap w (k + n) c e - (k + n))) e) } := by
  have h1 : ¬ (k + n ≤ c) := by omega
  have h2 := growslice_fits hc hb
  have h3 : ¬ (Builtin.nextslicecap (k + n) c * i.bytes > 2 ^ 48) := by omega
  have h4 : ¬ (((k + n : Nat) : Int) > IntKind.i64.max ∧ (False ∨ i.bytes = 0)) := fun h => by rcases h.2 with h | h; exact h; exact hb0 h
  have hq : (Question.appendCap (k + n) c e).forced = false := rfl
  have o1 := ho { w with drawn := w.drawn + 1 } (fun _ _ => rfl)
  have n1 := hn { w with drawn := w.drawn + 1 } (fun _ _ => rfl)
  have hti : ∀ w, (typeInfo e).run P w = .ok i w := fun w => by simp [typeInfo, hi]
  have hsz : ∀ w, (sizeOf e).run P w = .ok i.size w := fun w => run_sizeOf' hi
  cases d <;> first
    | (simp [isInt] at hd; done)
    | (simp only [Builtin.append_, List.getElem?_toArray, List.getElem?_cons_zero, List.getElem?_cons_succ, Sem.run_bind, run_underlying ht, run_underlying htx, Result.andThen_ok, hsz, hl, Sem.run_pure, Bool.false_eq_true, if_false, Bool.not_false, if_true]
       rw [if_neg h1]
       simp only [Sem.run_bind, hti, Result.andThen_ok]
       rw [if_neg h4]
       simp only [Sem.run_bind, hti, Result.andThen_ok]
       rw [if_neg h3]
       simp only [Sem.run_bind, run_choose, hq, Bool.false_eq_true, if_false, Result.andThen_ok, hti, run_askRoom, o1, n1, hz, Sem.run_pure, newRow, run_newObj, grownCap])
end Go.Proofs.YtopblipficpilaaGreatDoor.AY

/- The layer, fourteenth part: append. -/
namespace Go.Proofs.YtopblipficpilaaGreatDoor.AY
open Go
set_option linter.unusedVariables false
set_option linter.unusedSimpArgs false

def delM (m : Mm) (b : Nat) : Mm := fun i => if i = b then none else m i
theorem del_get (M : Mem) (b : Nat) : (M.del b).get = delM M.get b := funext fun i => Mem.get_del M b i

/-- a block that goes on under another number -/
theorem HR.move {P : Program} {ρ : Emb} {m : Mm} {w w' : World} (hr : HR P ρ m w) {b id p : Nat} {blk : Blk} {f : Inf} (hb : m b = some blk) (hob : isObj f.elem = false) (hrw : blk.rw = true) (hf : ρ b = some f) (hid : ρ id = none) {cells : List Value} {cs' : Array Value} {fz : Nat × Nat}
    (hsz : cs'.size = f.room) (hfz : fz = (0, 0) ∨ fz = (cs'.size, cs'.size + 1)) (hlen : p + cells.length ≤ f.room)
    (hcs : ∀ (o : Nat) (v : Value), cells[o]? = some v → ∃ v', cs'[p + o]? = some v' ∧ VR P ρ v v') (hw : w'.heap = w.heap.setIfInBounds f.blk (.cells cs' f.elem fz)) (hio : Io w w') :
    HR P (updE ρ id ⟨f.blk, p, f.room, f.elem⟩) (updM (delM m b) id ⟨cells, f.elem, true⟩) w' ∧ Ext ρ m w (updE ρ id ⟨f.blk, p, f.room, f.elem⟩) (updM (delM m b) id ⟨cells, f.elem, true⟩) w' := by
  obtain ⟨f₀, hf₀, ho⟩ := hr.one b blk hb
  rw [hf] at hf₀; cases hf₀
  have hlt := ho.lt
  have hsub : Sub ρ (updE ρ id ⟨f.blk, p, f.room, f.elem⟩) := fun i g hg => by
    unfold updE
    have : i ≠ id := by rintro rfl; rw [hid] at hg; cases hg
    simp [this, hg]
  have hoff : ∀ B, B ≠ f.blk → w'.heap[B]? = w.heap[B]? := fun B hB => by rw [hw, Array.getElem?_setIfInBounds_ne (Ne.symm hB)]
  have hother : ∀ i bi fi, i ≠ b → m i = some bi → ρ i = some fi → fi.blk ≠ f.blk := fun i bi fi hi hmi hfi => (hr.apart b i blk bi f fi (Ne.symm hi) hb hmi hrw hf hfi).symm
  have old : ∀ i bi, i ≠ id → updM (delM m b) id ⟨cells, f.elem, true⟩ i = some bi → i ≠ b ∧ m i = some bi := fun i bi hi h => by
    unfold updM delM at h
    simp only [hi, if_false] at h
    split at h
    · cases h
    · rename_i hn; exact ⟨hn, h⟩
  refine ⟨⟨fun i c hi => ?_, ?_⟩, ⟨hsub, by rw [hw]; simp, fun B hB hnw => hoff B fun h => hnw ⟨b, blk, f, hb, hrw, hf, h.symm⟩, fun i g hi hg => ?_, fun i c hi => ?_, hio⟩⟩
  · by_cases hii : i = id
    · subst hii
      simp only [updM, if_true, Option.some.injEq] at hi; subst hi
      refine ⟨⟨f.blk, p, f.room, f.elem⟩, by simp [updE], rfl, .inl ⟨hob, hlen, cs', f.elem, fz, by rw [hw]; simp [hlt], hsz, fun _ => ⟨rfl, hfz⟩, fun o v hv => ?_⟩, noglob hob⟩
      obtain ⟨v', h1, h2⟩ := hcs o v hv
      exact ⟨v', h1, h2.mono hsub⟩
    · obtain ⟨hn, hm⟩ := old i c hii hi
      obtain ⟨g, hg, hog⟩ := hr.one i c hm
      exact ⟨g, hsub i g hg, hog.mono hsub (hoff _ (hother i c g hn hm hg))⟩
  · intro i j bi bj fi fj hij hi hj hr' hfi hfj
    by_cases hii : i = id
    · have hjj : j ≠ id := fun h => hij (hii.trans h.symm)
      obtain ⟨hn, hm⟩ := old j bj hjj hj
      simp only [updE, hii, if_true, Option.some.injEq] at hfi
      simp only [updE, hjj, if_false] at hfj
      subst hfi
      exact (hother j bj fj hn hm hfj).symm
    · obtain ⟨hn, hm⟩ := old i bi hii hi
      simp only [updE, hii, if_false] at hfi
      by_cases hjj : j = id
      · simp only [updE, hjj, if_true, Option.some.injEq] at hfj
        subst hfj
        exact hother i bi fi hn hm hfi
      · obtain ⟨hn2, hm2⟩ := old j bj hjj hj
        simp only [updE, hjj, if_false] at hfj
        exact hr.apart i j bi bj fi fj hij hm hm2 hr' hfi hfj
  · unfold updE at hg
    by_cases hii : i = id
    · simp only [hii, if_true, Option.some.injEq] at hg; subst hg; exact .inr ⟨b, blk, f, hb, hrw, hf, rfl⟩
    · simp only [hii, if_false] at hg; rw [hi] at hg; cases hg
  · by_cases hii : i = id
    · subst hii; exact .inr hid
    · obtain ⟨_, hm⟩ := old i c hii hi; exact .inl ⟨c, hm, fun h => h⟩

theorem run_zeroC' {P : Program} {t : TypeId} {cs : Array Value} (h : zeroC P t = some cs) : ∃ z, (∀ w, (zeroValue t).run P w = .ok z w) ∧ z.cells = cs := by
  unfold zeroC at h
  split at h
  · rename_i i h1
    split at h
    · rename_i z h2
      cases hp : plains z.cells with
      | false => simp [hp] at h
      | true => simp [hp] at h; subst h; exact ⟨z, fun w => by simp [zeroValue, typeInfo, h1, h2], rfl⟩
    · cases h
  · cases h

theorem execOp_append {P : Program} {w : World} {o : Oper} {a : Act} {p q : Operand} {t tx : TypeId} (ho : o.op = .call { callee := .builtin .append, args := #[p, q], argTypes := #[t, tx] }) :
    (execOp a.eval o).run P w = ((Builtin.append_ #[t, tx] o.type #[a.eval p, a.eval q]).run P w).andThen fun v w' => .ok (.value v) w' := by
  unfold execOp
  simp only [ho, resolve, Sem.run_bind, Sem.run_pure, Result.andThen_ok, invoke, builtin, List.map_toArray, List.map_cons, List.map_nil]

theorem free_upd {ρ : Emb} {n id : Nat} {f : Inf} (h : Free ρ n) (hid : id = n) : Free (updE ρ id f) (n + 1) := fun i hi => by
  unfold updE
  have : i ≠ id := by omega
  simp [this, h i (by omega)]

/-- the run that makes a new row -/
theorem grown_out {P : Program} {ρ : Emb} {M N : Mem} {w : World} (hr : HR P ρ M.get w) (hf : Free ρ M.next) (hN : Within N.get M.get) (hnx : N.next = M.next) {e : TypeId} {i : TypeInfo} (hi : P.info? e = some i) (hob : isObj e = false) {z : Value} (hz : z.cells.size = i.size)
    {olds news olds' news' : List Value} {k n c : Nat} (h1 : VL P ρ olds olds') (h2 : VL P ρ news news') (l1 : olds'.length = k * i.size) (l2 : news'.length = n * i.size) :
    ∃ ρ', VR P ρ' (grownE P N e (olds ++ news) (k + n)).1 (.slice (some ⟨w.heap.size, 0, none⟩) (k + n) (grownCap w (k + n) c e)) ∧
      HR P ρ' (grownE P N e (olds ++ news) (k + n)).2.get { w with drawn := w.drawn + 1, heap := w.heap.push (.cells (olds'.toArray ++ news'.toArray ++ Builtin.zeroCells z.cells (grownCap w (k + n) c e - (k + n))) e) } ∧
      Free ρ' (grownE P N e (olds ++ news) (k + n)).2.next ∧
      Grow ρ M w ρ' (grownE P N e (olds ++ news) (k + n)).2 { w with drawn := w.drawn + 1, heap := w.heap.push (.cells (olds'.toArray ++ news'.toArray ++ Builtin.zeroCells z.cells (grownCap w (k + n) c e - (k + n))) e) } := by
  have hcap : k + n ≤ grownCap w (k + n) c e := by unfold grownCap Question.cut; exact Nat.le_add_right _ _
  generalize grownCap w (k + n) c e = cap at *
  have hid : ρ N.next = none := hf _ (by omega)
  have hsize : (olds'.toArray ++ news'.toArray ++ Builtin.zeroCells z.cells (cap - (k + n))).size = cap * i.size := by
    simp only [Array.size_append, List.size_toArray, Builtin.zeroCells, Array.size_map, Array.size_range, l1, l2, hz]
    rw [← Nat.add_mul, ← Nat.add_mul]; congr 1; omega
  have hvl := h1.append h2
  have hl := hvl.length
  obtain ⟨q1, q2, q3⟩ := (hr.within hN).alloc (cells := olds ++ news) (cs := olds'.toArray ++ news'.toArray ++ Builtin.zeroCells z.cells (cap - (k + n))) (elem := e) (fz := (0, 0)) hid (.inl rfl)
    (by rw [hl, hsize, List.length_append, l1, l2, ← Nat.add_mul]; exact Nat.mul_le_mul_right _ hcap)
    (fun j v hv => by
      obtain ⟨v', g1, g2⟩ := hvl.at j v hv
      refine ⟨v', ?_, g2⟩
      have hlt : j < (olds' ++ news').length := (List.getElem?_eq_some_iff.1 g1).1
      rw [Array.getElem?_append_left (by simpa using hlt)]
      simpa using g1) (w' := { w with drawn := w.drawn + 1, heap := w.heap.push (.cells (olds'.toArray ++ news'.toArray ++ Builtin.zeroCells z.cells (cap - (k + n))) e) }) rfl ⟨rfl, rfl, rfl⟩ hob (rw_ := true)
  have hget : (grownE P N e (olds ++ news) (k + n)).2.get = updM N.get N.next ⟨olds ++ news, e, true⟩ := by
    show ((N.put N.next _).bump 1).get = _
    rw [show ((N.put N.next ⟨olds ++ news, e, true⟩).bump 1).get = (N.put N.next ⟨olds ++ news, e, true⟩).get from rfl, put_get]
  refine ⟨updE ρ N.next ⟨w.heap.size, 0, (olds'.toArray ++ news'.toArray ++ Builtin.zeroCells z.cells (cap - (k + n))).size, e⟩,
    row_new (n := w.heap.size) (s := (olds'.toArray ++ news'.toArray ++ Builtin.zeroCells z.cells (cap - (k + n))).size) (e := e) (by simp only [updE, if_true]) hcap (.inr rfl) (by rw [cellsOf_eq hi, hsize]; exact Nat.le_refl _), by rw [hget]; exact q1, ?_, ⟨by rw [hget]; exact q2.less hN, fun j hj hn => ?_, ?_⟩⟩
  · rw [grownE_next, hnx]
    exact free_upd hf rfl
  · unfold updE
    have : j ≠ N.next := by omega
    simp [this, hn]
  · rw [grownE_next]
    omega

theorem appendE_ok {P : Program} {o : Oper} {ev : Operand → Option Value} {M M' : Mem} {t tx : TypeId} {p q : Operand} {s x v : Value} (ho : o.op = .call { callee := .builtin .append, args := #[p, q], argTypes := #[t, tx] }) (hs : ev p = some s) (hx : ev q = some x)
    (h : appendE P M t tx s x = some (v, M')) : EffOk P o ev M v M' := by
  refine EffOk.of_run fun ρ a w hop hr hf => ?_
  have e1 := hop.at (x := p) (by simp [ho, Op.operands, Call.operands]) hs
  have e2 := hop.at (x := q) (by simp [ho, Op.operands, Call.operands]) hx
  rw [execOp_append ho]
  generalize a.eval p = s' at e1
  generalize a.eval q = x' at e2
  unfold appendE at h
  split at h
  · rename_i e d h1 h2
    split at h
    · rename_i i z h3 h4
      split at h
      · cases h
      · rename_i hcond
        have c0 : isObj e = false := by cases hh : isObj e <;> simp_all
        have c1 : isInt d = false := by cases hh : isInt d <;> simp_all
        have c2 : i.bytes ≠ 0 := fun hh => hcond (.inr (.inr (.inl hh)))
        have c3 : z.size = i.size := Classical.byContradiction fun hh => hcond (.inr (.inr (.inr hh)))
        obtain ⟨zv, hz1, hz2⟩ := run_zeroC' h4
        split at h
        · rename_i k olds n news g1 g2
          obtain ⟨k1, olds', k2, k3, k4⟩ := run_content g1 e1 hr
          obtain ⟨n1, news', n2, n3, n4⟩ := run_content g2 e2 hr
          have hNself : Within M.get M.get := fun _ _ h => h
          have stay : ∀ base c', s' = .slice base k c' → k ≤ c' → n = 0 → ((Builtin.append_ #[t, tx] o.type #[s', x']).run P w).andThen (fun v w' => .ok (Next.value v) w') = .ok (Next.value s') w := by
            rintro base c' rfl hkc rfl
            have hnil : news' = [] := List.eq_nil_of_length_eq_zero (by rw [n2]; simp)
            subst hnil
            rw [run_append_in h1 h2 c1 h3 n1 (n4 w fun _ _ => rfl) (by omega)]
            cases base <;> rfl
          have out : ∀ base c', s' = .slice base k c' → c' < k + n → (k + n) * i.bytes ≤ 140737488355328 → ∀ N : Mem, Within N.get M.get → N.next = M.next → (v, M') = grownE P N e (olds ++ news) (k + n) →
              ∃ v' ρ' w', (((Builtin.append_ #[t, tx] o.type #[s', x']).run P w).andThen (fun v w' => .ok (Next.value v) w') = .ok (Next.value v') w' ∨ (((Builtin.append_ #[t, tx] o.type #[s', x']).run P w).andThen (fun v w' => .ok (Next.value v) w') = .ok Next.skip w' ∧ v' = undef)) ∧
                VR P ρ' v v' ∧ HR P ρ' M'.get w' ∧ Free ρ' M'.next ∧ Grow ρ M w ρ' M' w' := by
            rintro base c' rfl hlt hbytes N hN hnx hv
            have hrun := run_append_out (ty := o.type) h1 h2 c1 h3 hz1 (base := base) (k := k) (c := c') c2 n1 k4 n4 hlt hbytes
            obtain ⟨ρ', q1, q2, q3, q4⟩ := grown_out (c := c') hr hf hN hnx h3 c0 (z := zv) (by rw [hz2]; exact c3) k3 n3 k2 n2
            rw [← hv] at q1 q2 q3 q4
            exact ⟨_, ρ', _, .inl (by rw [hrun]; rfl), q1, q2, q3, q4⟩
          split at h
          · rename_i m c
            cases e1
            simp only [contentV, Option.some.injEq, Prod.mk.injEq] at g1
            obtain ⟨rfl, rfl⟩ := g1
            split at h
            · rename_i hn0
              cases h
              exact ⟨_, ρ, w, .inl (stay none 0 rfl (Nat.le_refl _) hn0), .nils, hr, hf, Grow.refl _ _ _⟩
            · rename_i hn0
              split at h
              · rename_i hbytes
                exact out none 0 rfl (by omega) hbytes M hNself rfl (Option.some.inj h).symm
              · cases h
          · rename_i b off k' c
            have e1' := e1
            cases e1 with
            | slice hfb hn hc hp hroom hsp =>
              rename_i c' pp sp f
              split at h
              · rename_i hn0
                cases h
                have hkk : k = k' := by
                  have := k1
                  simp only [Builtin.lenOf] at this
                  injection this with this
                  exact this.symm
                subst hkk
                exact ⟨_, ρ, w, .inl (stay _ _ rfl hn hn0), e1', hr, hf, Grow.refl _ _ _⟩
              · rename_i hn0
                split at h
                · rename_i hcc
                  obtain ⟨hbytes, rfl, hones⟩ := hcc
                  split at h
                  · rename_i hex
                    have : c = c' := hc.resolve_right hex.1
                    subst this
                    exact out _ _ rfl hex.2 hbytes M hNself rfl (Option.some.inj h).symm
                  · split at h
                    · rename_i blk hb0
                      have hob := (rowsOf_some hb0).2
                      have hb := (rowsOf_some hb0).1
                      split at h
                      · rename_i hbc
                        obtain ⟨hrw, rfl⟩ := hbc
                        have hN : Within (M.del b).get M.get := fun j c hj => by
                          rw [del_get] at hj; unfold delM at hj
                          split at hj
                          · cases hj
                          · exact hj
                        by_cases hlt : c' < k + n
                        · exact out _ _ rfl hlt hbytes (M.del b) hN rfl (Option.some.inj h).symm
                        · obtain ⟨f', hf', hone⟩ := hr.one b blk hb
                          rw [hfb] at hf'; cases hf'
                          obtain rfl := hsp (by omega)
                          obtain ⟨cs, fz, r1, r2, r3, r4⟩ := hone.own hob (by first | assumption | simp_all)
                          have hel := hone.elem
                          have hcz : P.cellsOf f.elem = i.size := by rw [hel]; exact cellsOf_eq h3
                          rw [hcz] at hroom
                          have hmul : (k + n) * i.size ≤ c' * i.size := Nat.mul_le_mul_right _ (by omega)
                          rw [Nat.add_mul] at hmul
                          have hle : pp + k * i.size + 0 + news'.length ≤ cs.size := by rw [n2, r2]; omega
                          have hst := run_storeCells_own (P := P) (o := pp + k * i.size) news' 0 w cs r1 (r3 hrw) hle (by rw [n3.ones]; exact hones)
                          have hrun := run_append_in (ty := o.type) h1 h2 c1 h3 (base := some ⟨f.blk, pp, none⟩) (k := k) (c := c') n1 (n4 w fun _ _ => rfl) (by omega)
                          simp only [addr_add] at hrun
                          rw [hst] at hrun
                          simp only [Result.andThen_ok] at hrun
                          have hid : ρ M.next = none := hf _ (Nat.le_refl _)
                          have hvl := k3.append n3
                          -- the elder elements lie where the slice begins
                          have hold : ∀ (j : Nat) (u : Value), olds'[j]? = some u → cs[pp + j]? = some u := by
                            intro j u hu
                            have hlt' : j < olds'.length := (List.getElem?_eq_some_iff.1 hu).1
                            have hk0 : 0 < k := by
                              rcases Nat.eq_zero_or_pos k with h0 | h0
                              · rw [h0, Nat.zero_mul] at k2; omega
                              · exact h0
                            have hpe := hp (.inl hk0)
                            have hfc := k4 w fun _ _ => rfl
                            unfold contentV at g1
                            simp only [show ¬ k = 0 by omega, if_false, hb0] at g1
                            split at g1
                            · rename_i hle'
                              obtain ⟨us, u1, u2, u3⟩ := hone.range hob hle'
                              have hfc2 := run_firstCells_some (P := P) w i.size k ⟨f.blk, pp, none⟩ k c' us u1 (fun j u hu => by rw [hpe]; exact u3 j u hu)
                              rw [hfc2] at hfc
                              have : us = olds' := by
                                injection hfc with hfc _
                                exact Array.toList_inj.2 hfc
                              subst this
                              have := u3 j u hu
                              rw [addr_add] at this
                              simp [World.cell?, r1] at this
                              rw [hpe]; exact this
                            · cases g1
                          obtain ⟨q1, q2⟩ := hr.move (p := pp) (id := M.next) (cells := olds ++ news) (cs' := setR cs (pp + k * i.size + 0) news') (fz := fz) hb (by rw [hel]; exact hob) hrw hfb hid (by rw [setR_size]; exact r2) (by rw [setR_size]; exact r3 hrw)
                            (by rw [hvl.length, List.length_append, k2, n2]; omega)
                            (fun j u hu => by
                              obtain ⟨u', g3, g4⟩ := hvl.at j u hu
                              refine ⟨u', ?_, g4⟩
                              rw [setR_get _ _ _ _ hle]
                              by_cases hj : j < olds'.length
                              · rw [List.getElem?_append_left hj] at g3
                                rw [if_neg (by omega)]
                                exact hold j u' g3
                              · rw [List.getElem?_append_right (by omega)] at g3
                                have hlt' : j - olds'.length < news'.length := (List.getElem?_eq_some_iff.1 g3).1
                                rw [if_pos (by omega), show pp + j - (pp + k * i.size + 0) = j - olds'.length by omega]
                                exact g3) (w' := { w with heap := w.heap.setIfInBounds f.blk (.cells (setR cs (pp + k * i.size + 0) news') f.elem fz) }) rfl ⟨rfl, rfl, rfl⟩
                          have hv := Option.some.inj h
                          have hget : (grownE P (M.del b) blk.elem (olds ++ news) (k + n)).2.get = updM (delM M.get b) M.next ⟨olds ++ news, f.elem, true⟩ := by
                            show (((M.del b).put M.next ⟨olds ++ news, blk.elem, true⟩).bump 1).get = _
                            rw [show (((M.del b).put M.next ⟨olds ++ news, blk.elem, true⟩).bump 1).get = ((M.del b).put M.next ⟨olds ++ news, blk.elem, true⟩).get from rfl, put_get, del_get, hel]
                          have hM : (grownE P (M.del b) blk.elem (olds ++ news) (k + n)).2 = M' := by rw [hv]
                          have hV : (grownE P (M.del b) blk.elem (olds ++ news) (k + n)).1 = v := by rw [hv]
                          rw [hM] at hget
                          have hnx : M'.next = M.next + 1 := by rw [← hM, grownE_next]; rfl
                          refine ⟨_, _, _, .inl (by rw [hrun]; rfl), ?_, by rw [hget]; exact q1, by rw [hnx]; exact free_upd hf rfl, ⟨by rw [hget]; exact q2, fun j hj hn => ?_, by omega⟩⟩
                          · rw [← hV]
                            have := VR.slice (P := P) (ρ := updE ρ M.next ⟨f.blk, pp, f.room, f.elem⟩) (i := M.next) (o := 0) (n := k + n) (c := unk) (c' := c') (p := pp) (f := ⟨f.blk, pp, f.room, f.elem⟩) (by simp [updE]) (by omega) (.inr rfl) (fun _ => rfl) (by rw [hcz]; exact hroom) (fun _ => rfl)
                            exact this
                          · unfold updE
                            have : j ≠ M.next := by omega
                            simp [this, hn]
                      · cases h
                    · cases h
                · cases h
          · cases h
        · cases h
    · cases h
  · cases h
end Go.Proofs.YtopblipficpilaaGreatDoor.AY

/- Maps: what they hold in abstract memory, and the operations on them. -/
namespace Go.Proofs.YtopblipficpilaaGreatDoor.AY
open Go
set_option linter.unusedVariables false
set_option linter.unusedSimpArgs false
section
variable {P : Program} {ρ : Emb} {m : Mm} {w : World}

theorem One.objOf {f : Inf} {b : Blk} (h : One P ρ w f b) (ho : isObj b.elem = true) : f.shift = 0 ∧ ∃ o, w.heap[f.blk]? = some o ∧ ObjR P ρ b.cells b.elem o := by
  rcases h.row with ⟨h1, _⟩ | ⟨_, h⟩
  · rw [ho] at h1; cases h1
  · exact h

/-- a new object -/
theorem HR.allocObj (hr : HR P ρ m w) {id : Nat} (hid : ρ id = none) {cells : List Value} {elem : TypeId} {o : Obj} (hob : isObj elem = true) {w' : World} (hw : w'.heap = w.heap.push o) (hio : Io w w')
    (hor : ObjR P (updE ρ id ⟨w.heap.size, 0, 0, elem⟩) cells elem o) (hlt : elem < globTag := by decide) :
    HR P (updE ρ id ⟨w.heap.size, 0, 0, elem⟩) (updM m id ⟨cells, elem, true⟩) w' ∧ Ext ρ m w (updE ρ id ⟨w.heap.size, 0, 0, elem⟩) (updM m id ⟨cells, elem, true⟩) w' ∧ m id = none := by
  have hm : m id = none := by
    cases h : m id with
    | none => rfl
    | some b => obtain ⟨f, hf, _⟩ := hr.one id b h; rw [hid] at hf; cases hf
  have hsub : Sub ρ (updE ρ id ⟨w.heap.size, 0, 0, elem⟩) := fun i f hf => by
    unfold updE
    have : i ≠ id := by rintro rfl; rw [hid] at hf; cases hf
    simp [this, hf]
  have hold : ∀ B, B < w.heap.size → w'.heap[B]? = w.heap[B]? := fun B hB => by
    rw [hw, Array.getElem?_push]
    have : B ≠ w.heap.size := by omega
    simp [this]
  refine ⟨⟨fun i b hi => ?_, ?_⟩, ⟨hsub, by rw [hw]; simp, fun B hB _ => hold B hB, fun i f hi hf => ?_, fun i b' hi => ?_, hio⟩, hm⟩
  · unfold updM at hi
    by_cases hii : i = id
    · subst hii
      simp only [if_true, Option.some.injEq] at hi; subst hi
      exact ⟨_, by simp [updE]; rfl, rfl, .inr ⟨hob, rfl, o, by simp [hw], hor⟩, fun g he => absurd hlt (by rw [show elem = globTag + g from he]; exact Nat.not_lt.2 (Nat.le_add_right _ _))⟩
    · simp only [hii, if_false] at hi
      obtain ⟨f, hf, ho⟩ := hr.one i b hi
      exact ⟨f, hsub i f hf, ho.mono hsub (hold f.blk ho.lt)⟩
  · intro i j bi bj fi fj hij hi hj hrw hfi hfj
    unfold updM at hi hj
    unfold updE at hfi hfj
    by_cases hii : i = id
    · have hjj : j ≠ id := fun h => hij (hii.trans h.symm)
      simp only [hii, if_true, Option.some.injEq] at hfi
      simp only [hjj, if_false] at hfj hj
      obtain ⟨f, hf, ho⟩ := hr.one j bj hj
      rw [hfj] at hf; cases hf
      have := ho.lt
      subst hfi
      simp; omega
    · simp only [hii, if_false] at hfi hi
      by_cases hjj : j = id
      · simp only [hjj, if_true, Option.some.injEq] at hfj
        obtain ⟨f, hf, ho⟩ := hr.one i bi hi
        rw [hfi] at hf; cases hf
        have := ho.lt
        subst hfj
        simp; omega
      · simp only [hjj, if_false] at hfj hj
        exact hr.apart i j bi bj fi fj hij hi hj hrw hfi hfj
  · unfold updE at hf
    by_cases hii : i = id
    · simp only [hii, if_true, Option.some.injEq] at hf; subst hf; exact .inl (Nat.le_refl _)
    · simp only [hii, if_false] at hf; rw [hi] at hf; cases hf
  · unfold updM at hi
    by_cases hii : i = id
    · subst hii; exact .inr hid
    · simp only [hii, if_false] at hi; exact .inl ⟨b', hi, fun h => h⟩

/-- an object written -/
theorem HR.writeObj (hr : HR P ρ m w) {id : Nat} {b : Blk} {f : Inf} (hb : m id = some b) (hob : isObj b.elem = true) (hrw : b.rw = true) (hf : ρ id = some f) {cells : List Value} {o : Obj} (hor : ObjR P ρ cells b.elem o)
    {w' : World} (hw : w'.heap = w.heap.setIfInBounds f.blk o) (hio : Io w w') :
    HR P ρ (updM m id ⟨cells, b.elem, true⟩) w' ∧ Ext ρ m w ρ (updM m id ⟨cells, b.elem, true⟩) w' := by
  obtain ⟨f₀, hf₀, ho⟩ := hr.one id b hb
  rw [hf] at hf₀; cases hf₀
  have hlt := ho.lt
  have hoff : ∀ B, B ≠ f.blk → w'.heap[B]? = w.heap[B]? := fun B hB => by rw [hw, Array.getElem?_setIfInBounds_ne (Ne.symm hB)]
  have hother : ∀ i bi fi, i ≠ id → m i = some bi → ρ i = some fi → fi.blk ≠ f.blk := fun i bi fi hi hmi hfi => (hr.apart id i b bi f fi (Ne.symm hi) hb hmi hrw hf hfi).symm
  refine ⟨⟨fun i c hi => ?_, ?_⟩, ⟨Sub.refl ρ, by rw [hw]; simp, fun B hB hnw => ?_, fun i g hi hg => (by rw [hi] at hg; cases hg), fun i b' hi => ?_, hio⟩⟩
  · unfold updM at hi
    by_cases hii : i = id
    · subst hii
      simp only [if_true, Option.some.injEq] at hi; subst hi
      exact ⟨f, hf, ho.elem, .inr ⟨hob, (ho.objOf hob).1, o, by rw [hw]; simp [hlt], hor⟩, ho.glob⟩
    · simp only [hii, if_false] at hi
      obtain ⟨g, hg, hog⟩ := hr.one i c hi
      exact ⟨g, hg, hog.mono (Sub.refl ρ) (hoff _ (hother i c g hii hi hg))⟩
  · intro i j bi bj fi fj hij hi hj hr' hfi hfj
    unfold updM at hi hj
    by_cases hii : i = id
    · have hjj : j ≠ id := fun h => hij (hii.trans h.symm)
      simp only [hjj, if_false] at hj
      subst hii
      exact hr.apart i j b bj fi fj hij hb hj hrw hfi hfj
    · simp only [hii, if_false] at hi
      by_cases hjj : j = id
      · subst hjj
        exact hr.apart i j bi b fi fj hij hi hb hr' hfi hfj
      · simp only [hjj, if_false] at hj
        exact hr.apart i j bi bj fi fj hij hi hj hr' hfi hfj
  · exact hoff B fun h => hnw ⟨id, b, f, hb, hrw, hf, h.symm⟩
  · unfold updM at hi
    by_cases hii : i = id
    · subst hii; exact .inl ⟨b, hb, fun _ => hrw⟩
    · simp only [hii, if_false] at hi; exact .inl ⟨b', hi, fun h => h⟩
end

theorem allocA_ok {P : Program} {o : Oper} {ev : Operand → Option Value} {b : Blk} {mk : Nat → Value} (h : allocA P ev o.op = some (b, mk)) : AllocOk P o ev b mk := by
  unfold allocA at h
  split at h
  · rename_i t ho
    simp only [Option.some.injEq, Prod.mk.injEq] at h
    obtain ⟨rfl, rfl⟩ := h
    intro ρ m a w id K Q hop hr hid hk
    have hrun : (execOp a.eval o).run P w = .ok (.value (.map (some w.heap.size))) { w with heap := w.heap.push (.map #[] 0) } := by
      unfold execOp
      simp only [ho, Option.map_none, Instr.makeMap, Sem.run_bind, Sem.run_pure, run_newObj, Result.andThen_ok]
    obtain ⟨g1, g2, _⟩ := hr.allocObj (id := id) hid (cells := [.int .i64 (0 : Nat)]) (elem := mapTag) (o := .map #[] 0) rfl (w' := { w with heap := w.heap.push (.map #[] 0) }) rfl ⟨rfl, rfl, rfl⟩ (.map .nil)
    unfold Oper.wp
    rw [hrun]
    exact hk _ _ _ (.mapr (f := ⟨w.heap.size, 0, 0, mapTag⟩) (by simp [updE])) g1 g2
  · exact (allocA_ok0 h).1

/-! ### keys -/
def keyKind : TypeDesc → Bool
  | .int _ => true
  | .string => true
  | _ => false
def keyNow : TypeDesc → Value → Value → Option Bool
  | .int _, .int k a, .int k' b => if k = k' then some (a == b) else none
  | .string, .string a, .string b => some (a.data.toList == b.data.toList)
  | _, _, _ => none
theorem bytes_beq (x y : ByteArray) : (x == y) = (x.data.toList == y.data.toList) := by
  obtain ⟨x⟩ := x
  obtain ⟨y⟩ := y
  have h : ((⟨x⟩ : ByteArray) == ⟨y⟩) = (x == y) := rfl
  rw [h]
  by_cases hxy : x = y
  · subst hxy; simp
  · have : ¬ (x.toList = y.toList) := fun h => hxy (Array.toList_inj.1 h)
    rw [beq_eq_false_iff_ne.2 hxy, beq_eq_false_iff_ne.2 this]
theorem keyNow_ok {P : Program} {ρ : Emb} {d : TypeDesc} {a a' b b' : Value} {t : Bool} (h : keyNow d a b = some t) (ha : VR P ρ a a') (hb : VR P ρ b b') : Instr.sameNow d a' b' = some t ∧ a' = a ∧ b' = b ∧ (t = true → a = b) := by
  unfold keyNow at h
  split at h
  · cases ha; cases hb
    split at h
    · rename_i hk
      subst hk
      cases h
      refine ⟨by simp [Instr.sameNow], rfl, rfl, fun ht => ?_⟩
      have := beq_iff_eq.1 ht
      rw [this]
    · cases h
  · rename_i x y
    cases ha; cases hb
    cases h
    have e : (x == y) = (x.data.toList == y.data.toList) := bytes_beq x y
    refine ⟨by simp only [Instr.sameNow, e], rfl, rfl, fun ht => ?_⟩
    have := beq_iff_eq.1 ht
    have : x.data = y.data := Array.toList_inj.1 this
    rw [ByteArray.ext this]
  · cases h

/-- where a key stands among entries, and its value -/
def findE (d : TypeDesc) (k : Value) : List Value → Nat → Option (Option (Nat × Value))
  | [], _ => some none
  | .tuple ⟨[k', v, _]⟩ :: l, i => match keyNow d k k' with
    | some true => some (some (i, v))
    | some false => findE d k l (i + 1)
    | none => none
  | _, _ => none
theorem findE_none {P : Program} {ρ : Emb} {d : TypeDesc} {k k' : Value} (hk : VR P ρ k k') {cs : List Value} {es : List MapEntry} (he : EntR P ρ cs es) : ∀ {i : Nat}, findE d k cs i = some none → Instr.findNow d k' es i = some none := by
  induction he with
  | nil => intro i _; rfl
  | cons h1 h2 _ ih =>
    intro i h
    simp only [findE] at h
    split at h
    · cases h
    · rename_i hkn
      obtain ⟨g, _⟩ := keyNow_ok hkn hk h1
      simp only [Instr.findNow, g]
      exact ih h
    · cases h
theorem findE_some {P : Program} {ρ : Emb} {d : TypeDesc} {k k' v : Value} {j : Nat} (hk : VR P ρ k k') {cs : List Value} {es : List MapEntry} (he : EntR P ρ cs es) : ∀ {i : Nat}, findE d k cs i = some (some (j, v)) →
    i ≤ j ∧ ∃ e, es[j - i]? = some e ∧ Instr.findNow d k' es i = some (some (j, e.val)) ∧ VR P ρ v e.val ∧ e.key = k' ∧ k' = k := by
  induction he with
  | nil => intro i h; cases h
  | cons h1 h2 _ ih =>
    intro i h
    simp only [findE] at h
    split at h
    · rename_i hkn
      simp only [Option.some.injEq, Prod.mk.injEq] at h
      obtain ⟨rfl, rfl⟩ := h
      obtain ⟨g, e1, e2, e3⟩ := keyNow_ok hkn hk h1
      exact ⟨Nat.le_refl _, _, by rw [Nat.sub_self]; rfl, by simp only [Instr.findNow, g], h2, by rw [e1, e2, ← e3 rfl], e1⟩
    · rename_i hkn
      obtain ⟨g, _⟩ := keyNow_ok hkn hk h1
      obtain ⟨hle, e, q1, q2, q3⟩ := ih h
      refine ⟨by omega, e, ?_, ?_, q3⟩
      · rw [show j - i = (j - (i + 1)) + 1 by omega, List.getElem?_cons_succ]; exact q1
      · simp only [Instr.findNow, g]; exact q2
    · cases h
theorem run_checkKey {P : Program} {w : World} {t : TypeId} {d : TypeDesc} {b : Bool} {n : Nat} {v : Value} (h : P.underlying t = some d) (hd : keyKind d = true) : (Instr.checkKey b (n + 1) t v).run P w = .ok () w := by
  cases d <;> first | (simp [keyKind] at hd; done) | (simp only [Instr.checkKey, Sem.run_bind, run_underlying h, Result.andThen_ok]; rfl)
theorem run_findKey {P : Program} {w : World} {t : TypeId} {d : TypeDesc} {k : Value} {es : List MapEntry} {r : Option (Nat × Value)} (h : P.underlying t = some d) (hf : Instr.findNow d k es 0 = some r) : (Instr.findKey t k es).run P w = .ok r w := by
  simp only [Instr.findKey, Sem.run_bind, run_underlying h, Result.andThen_ok, hf, Sem.run_pure]
def objB : Obj → Bool
  | .cells _ _ _ => false
  | _ => true
theorem run_getObj' {P : Program} {w : World} {r : Nat} {o : Obj} (h : w.heap[r]? = some o) (ho : objB o = true := by rfl) : (getObj r).run P w = .ok o w := by cases o <;> first | (simp [getObj, Sem.run, h]; done) | (cases ho)
theorem run_setObj' {P : Program} {w : World} {r : Nat} {o o' : Obj} (h : w.heap[r]? = some o) (ho : objB o = true := by rfl) : (setObj r o').run P w = .ok () { w with heap := w.heap.setIfInBounds r o' } := by cases o <;> first | (simp [setObj, Sem.run, h]; done) | (cases ho)

/-! ### what a key has -/
def zeroV (P : Program) (t : TypeId) : Option Value := match P.info? t with
  | some i => match i.zero with
    | some z => bif plain z then some z else none
    | none => none
  | none => none
theorem run_zeroV {P : Program} {w : World} {t : TypeId} {z : Value} (h : zeroV P t = some z) : (zeroValue t).run P w = .ok z w ∧ plain z = true := by
  unfold zeroV at h
  split at h
  · rename_i i h1
    split at h
    · rename_i z' h2
      cases hp : plain z' with
      | false => simp [hp] at h
      | true => simp [hp] at h; subst h; exact ⟨by simp [zeroValue, typeInfo, h1, h2], hp⟩
    · cases h
  · cases h
/-- the entries of a map -/
def entC (m : Mm) (x : Value) : Option (List Value) := match x with
  | .map none => some []
  | .map (some b) => match m b with
    | some blk => bif Nat.beq blk.elem mapTag then (match blk.cells with | _ :: cs => some cs | [] => none) else none
    | none => none
  | _ => none
theorem entC_ok {P : Program} {ρ : Emb} {m : Mm} {w : World} {x x' : Value} {cs : List Value} (h : entC m x = some cs) (hx : VR P ρ x x') (hr : HR P ρ m w) :
    (x' = .map none ∧ cs = []) ∨ ∃ r es c, x' = .map (some r) ∧ w.heap[r]? = some (.map es c) ∧ EntR P ρ cs es.toList := by
  unfold entC at h
  split at h
  · cases hx; cases h; exact .inl ⟨rfl, rfl⟩
  · rename_i b
    cases hx with
    | mapr hf =>
      rename_i f
      split at h
      · rename_i blk hb
        cases he : Nat.beq blk.elem mapTag with
        | false => simp [he] at h
        | true =>
          simp only [he, cond_true] at h
          have he := Nat.eq_of_beq_eq_true he
          obtain ⟨f', hf', ho⟩ := hr.one b blk hb
          rw [hf] at hf'; cases hf'
          obtain ⟨_, o, h1, h2⟩ := ho.objOf (by rw [he]; rfl)
          obtain ⟨cells, elem, rw_⟩ := blk
          simp only at he h2 h
          subst he
          split at h
          · cases h
            generalize hE : mapTag = E at h2
            cases h2 with
            | map h3 => exact .inr ⟨_, _, _, rfl, h1, h3⟩
            | iter h3 => simp [mapTag] at hE
          · cases h
      · cases h
  · cases h

def lookR (ok : Bool) (v : Value) (b : Bool) : Value := bif ok then .tuple ⟨[v, .bool b]⟩ else v
def lookupV (P : Program) (m : Mm) (t : TypeId) (x k : Value) (ok : Bool) : Option Value := match P.underlying t with
  | some (.map kt et) => match P.underlying kt, zeroV P et, entC m x with
    | some d, some z, some cs => bif keyKind d then (match findE d k cs 0 with
        | some (some (_, v)) => some (lookR ok v true)
        | some none => some (lookR ok z false)
        | none => none) else none
    | _, _, _ => none
  | _ => none
theorem VR.look {P : Program} {ρ : Emb} {ok b : Bool} {v v' : Value} (h : VR P ρ v v') : VR P ρ (lookR ok v b) (if ok then .tuple #[v', .bool b] else v') := by
  cases ok with
  | false => exact h
  | true =>
    refine .tuple rfl fun i u u' hu hu' => ?_
    match i with
    | 0 => simp at hu hu'; subst hu; subst hu'; exact h
    | 1 => simp at hu hu'; subst hu; subst hu'; exact .bool _
    | n + 2 => simp at hu
theorem run_lookupV {P : Program} {ρ : Emb} {m : Mm} {w : World} {t : TypeId} {x x' k k' v : Value} {ok : Bool} (h : lookupV P m t x k ok = some v) (hx : VR P ρ x x') (hk : VR P ρ k k') (hr : HR P ρ m w) :
    ∃ v', (Instr.lookup t x' k' ok).run P w = .ok v' w ∧ VR P ρ v v' := by
  unfold lookupV at h
  split at h
  · rename_i kt et h1
    split at h
    · rename_i d z cs h2 h3 h4
      cases hd : keyKind d with
      | false => simp [hd] at h
      | true =>
        simp only [hd, cond_true] at h
        obtain ⟨hz, hzp⟩ := run_zeroV (w := w) h3
        rcases entC_ok h4 hx hr with ⟨rfl, rfl⟩ | ⟨r, es, c, rfl, hh, he⟩
        · simp only [findE, Option.some.injEq] at h
          subst h
          refine ⟨_, ?_, VR.look (ok := ok) (b := false) (plain_self hzp)⟩
          simp only [Instr.lookup, Sem.run_bind, run_underlying h1, Result.andThen_ok, Sem.run_pure, run_checkKey h2 hd, run_findKey h2 (show Instr.findNow d k' (#[] : Array MapEntry).toList 0 = some none from rfl), hz]
        · split at h
          · rename_i j v0 hf
            obtain ⟨_, e, q1, q2, q3, _⟩ := findE_some hk he hf
            cases h
            refine ⟨_, ?_, VR.look (ok := ok) (b := true) q3⟩
            simp only [Instr.lookup, Sem.run_bind, run_underlying h1, Result.andThen_ok, Sem.run_pure, run_getObj' hh, run_checkKey h2 hd, run_findKey h2 q2]
          · rename_i hf
            have q2 := findE_none hk he hf
            cases h
            refine ⟨_, ?_, VR.look (ok := ok) (b := false) (plain_self hzp)⟩
            simp only [Instr.lookup, Sem.run_bind, run_underlying h1, Result.andThen_ok, Sem.run_pure, run_getObj' hh, run_checkKey h2 hd, run_findKey h2 q2, hz]
          · cases h
    · cases h
  · cases h

/-! ### a map changed -/
def setE : List Value → Nat → Value → List Value
  | .tuple ⟨[k, _, b]⟩ :: l, 0, v => .tuple ⟨[k, v, b]⟩ :: l
  | x :: l, i + 1, v => x :: setE l i v
  | l, _, _ => l
theorem EntR.mod {P : Program} {ρ : Emb} {f : MapEntry → MapEntry} {v : Value} {cs : List Value} {es : List MapEntry} (h : EntR P ρ cs es) : ∀ {i : Nat} {e : MapEntry}, es[i]? = some e → (f e).key = e.key → (f e).born = e.born → VR P ρ v (f e).val → EntR P ρ (setE cs i v) (es.modify i f) := by
  induction h with
  | nil => intro i e h; simp at h
  | @cons k u x cs es hk hv h ih =>
    intro i e he h1 h2 h3
    cases i with
    | zero =>
      simp only [List.getElem?_cons_zero, Option.some.injEq] at he
      subst he
      simp only [setE, List.modify_zero_cons]
      rw [← h2]
      exact .cons (by rw [h1]; exact hk) h3 h
    | succ i =>
      simp only [List.getElem?_cons_succ] at he
      simp only [setE, List.modify_succ_cons]
      exact .cons hk hv (ih he h1 h2 h3)
theorem EntR.push {P : Program} {ρ : Emb} {k v : Value} {e : MapEntry} (hk : VR P ρ k e.key) (hv : VR P ρ v e.val) {cs : List Value} {es : List MapEntry} (h : EntR P ρ cs es) : EntR P ρ (cs ++ [.tuple ⟨[k, v, .int .i64 (e.born : Nat)]⟩]) (es ++ [e]) := by
  induction h with
  | nil => exact .cons hk hv .nil
  | cons h1 h2 _ ih => exact .cons h1 h2 ih
theorem EntR.erase {P : Program} {ρ : Emb} {cs : List Value} {es : List MapEntry} (h : EntR P ρ cs es) : ∀ (i : Nat), EntR P ρ (cs.eraseIdx i) (es.eraseIdx i) := by
  induction h with
  | nil => intro i; exact .nil
  | cons h1 h2 h ih =>
    intro i
    cases i with
    | zero => exact h
    | succ i => exact .cons h1 h2 (ih i)
theorem keyNow_same {d : TypeDesc} {a b : Value} {t : Bool} (h : keyNow d a b = some t) : Instr.sameBits 10000 a a = true := by
  unfold keyNow at h
  split at h
  · simp [Instr.sameBits]
  · simp [Instr.sameBits, bytes_beq]
  · cases h
theorem findE_same {d : TypeDesc} {k v : Value} {j : Nat} : ∀ {cs : List Value} {i : Nat}, findE d k cs i = some (some (j, v)) → Instr.sameBits 10000 k k = true := by
  intro cs
  induction cs with
  | nil => intro i h; cases h
  | cons x cs ih =>
    intro i h
    unfold findE at h
    split at h
    · rename_i heq; cases heq
    · rename_i heq
      injection heq with h1 h2
      subst h1; subst h2
      split at h
      · rename_i hk; exact keyNow_same hk
      · exact ih h
      · cases h
    · cases h
/-- a map's block -/
theorem map_block {P : Program} {ρ : Emb} {m : Mm} {w : World} (hr : HR P ρ m w) {b : Nat} {blk : Blk} (hb : m b = some blk) {f : Inf} (hf : ρ b = some f) (he : Nat.beq blk.elem mapTag = true) {c : Int} {cs : List Value} (hc : blk.cells = .int .i64 c :: cs) :
    isObj blk.elem = true ∧ blk.elem = mapTag ∧ ∃ es n, c = (n : Nat) ∧ w.heap[f.blk]? = some (.map es n) ∧ EntR P ρ cs es.toList := by
  have he := Nat.eq_of_beq_eq_true he
  obtain ⟨f', hf', ho⟩ := hr.one b blk hb
  rw [hf] at hf'; cases hf'
  have hob : isObj blk.elem = true := by rw [he]; rfl
  obtain ⟨_, o, h1, h2⟩ := ho.objOf hob
  refine ⟨hob, he, ?_⟩
  rw [hc, he] at h2
  generalize hE : mapTag = E at h2
  generalize hC : (Value.int .i64 c :: cs) = C at h2
  cases h2 with
  | map h3 => injection hC with q1 q2; injection q1 with _ q1; subst q2; exact ⟨_, _, q1, h1, h3⟩
  | iter h3 => simp [mapTag] at hE
  | glob h3 => cases hC

def updateV (P : Program) (M : Mem) (t : TypeId) (x k v : Value) : Option Mem := match P.underlying t, x with
  | some (.map kt _), .map (some b) => match P.underlying kt, M.get b with
    | some d, some blk => bif keyKind d && Nat.beq blk.elem mapTag && blk.rw then (match blk.cells with
      | .int .i64 c :: cs => match findE d k cs 0 with
        | some (some (i, _)) => some (M.put b ⟨.int .i64 c :: setE cs i v, mapTag, true⟩)
        | some none => some (M.put b ⟨.int .i64 (c + 1) :: (cs ++ [.tuple ⟨[k, v, .int .i64 c]⟩]), mapTag, true⟩)
        | none => none
      | _ => none) else none
    | _, _ => none
  | _, _ => none
theorem updateV_ok {P : Program} {o : Oper} {ev : Operand → Option Value} {M M' : Mem} {t : TypeId} {p q r : Operand} {x k v : Value} (ho : o.op = .mapUpdate t p q r) (hx : ev p = some x) (hk : ev q = some k) (hv : ev r = some v) (h : updateV P M t x k v = some M') :
    EffOk P o ev M undef M' := by
  refine EffOk.of_run fun ρ a w hop hr hf => ?_
  have e1 := hop.at (x := p) (by simp [ho, Op.operands]) hx
  have e2 := hop.at (x := q) (by simp [ho, Op.operands]) hk
  have e3 := hop.at (x := r) (by simp [ho, Op.operands]) hv
  generalize hx' : a.eval p = x' at e1
  generalize hk' : a.eval q = k' at e2
  generalize hv' : a.eval r = v' at e3
  unfold updateV at h
  split at h
  · rename_i kt et b h1
    cases e1 with
    | mapr hfb =>
      rename_i f
      split at h
      · rename_i d blk h2 hb
        cases hc : (keyKind d && Nat.beq blk.elem mapTag && blk.rw) with
        | false => simp [hc] at h
        | true =>
          simp only [hc, cond_true] at h
          simp only [Bool.and_eq_true] at hc
          obtain ⟨⟨hd, he⟩, hrw⟩ := hc
          split at h
          · rename_i c cs hcells
            obtain ⟨hob, hel, es, n, rfl, hh, hen⟩ := map_block hr hb hfb he hcells
            have hlt := (Array.getElem?_eq_some_iff.1 hh).1
            split at h
            · rename_i i u hfi
              obtain ⟨_, e, q1, q2, q3, q4, q5⟩ := findE_some e2 hen hfi
              have hsame := findE_same hfi
              cases h
              have hex : (execOp a.eval o).run P w = .ok .skip { w with heap := w.heap.setIfInBounds f.blk (.map (es.modify i fun e => { e with key := k', val := v' }) n) } := by
                have q1' : es[i]? = some e := by rw [Nat.sub_zero, Array.getElem?_toList] at q1; exact q1
                unfold execOp
                simp only [ho, hx', hk', hv', Instr.mapUpdate, Sem.run_bind, run_underlying h1, Result.andThen_ok, run_getObj' hh, run_checkKey h2 hd, run_findKey h2 q2, q1', Option.map_some, Option.getD_some, q4, Instr.keyThatStays]
                rw [q5, if_pos hsame]
                simp only [Sem.run_pure, Result.andThen_ok, run_setObj' hh]
              obtain ⟨g1, g2⟩ := hr.writeObj (cells := .int .i64 (n : Nat) :: setE cs i v) hb hob hrw hfb (o := .map (es.modify i fun e => { e with key := k', val := v' }) n)
                (by rw [hel]; exact .map (by rw [Array.toList_modify]; exact hen.mod (by rw [Nat.sub_zero] at q1; exact q1) q4.symm rfl e3)) (w' := { w with heap := w.heap.setIfInBounds f.blk (.map (es.modify i fun e => { e with key := k', val := v' }) n) }) rfl ⟨rfl, rfl, rfl⟩
              rw [hel] at g1 g2
              exact ⟨undef, ρ, _, .inr ⟨hex, rfl⟩, VR.undef P ρ, by rw [put_get]; exact g1, (by rw [Mem.next_put]; exact hf), ⟨by rw [put_get]; exact g2, fun _ _ h => h, Nat.le_of_eq (Mem.next_put _ _ _).symm⟩⟩
            · rename_i hfi
              have q2 := findE_none e2 hen hfi
              cases h
              have hex : (execOp a.eval o).run P w = .ok .skip { w with heap := w.heap.setIfInBounds f.blk (.map (es.push { key := k', val := v', born := n }) (n + 1)) } := by
                unfold execOp
                simp only [ho, hx', hk', hv', Instr.mapUpdate, Sem.run_bind, run_underlying h1, Result.andThen_ok, run_getObj' hh, run_checkKey h2 hd, run_findKey h2 q2, run_setObj' hh, Sem.run_pure]
              obtain ⟨g1, g2⟩ := hr.writeObj (cells := .int .i64 ((n : Int) + 1) :: (cs ++ [.tuple ⟨[k, v, .int .i64 (n : Nat)]⟩])) hb hob hrw hfb (o := .map (es.push { key := k', val := v', born := n }) (n + 1))
                (by rw [hel, show ((n : Int) + 1) = ((n + 1 : Nat) : Int) by omega]; exact .map (by rw [Array.toList_push]; exact EntR.push (e := { key := k', val := v', born := n }) e2 e3 hen)) (w' := { w with heap := w.heap.setIfInBounds f.blk (.map (es.push { key := k', val := v', born := n }) (n + 1)) }) rfl ⟨rfl, rfl, rfl⟩
              rw [hel] at g1 g2
              exact ⟨undef, ρ, _, .inr ⟨hex, rfl⟩, VR.undef P ρ, by rw [put_get]; exact g1, (by rw [Mem.next_put]; exact hf), ⟨by rw [put_get]; exact g2, fun _ _ h => h, Nat.le_of_eq (Mem.next_put _ _ _).symm⟩⟩
            · cases h
          · cases h
      · cases h
  · cases h

/-! ### going through a map that has one entry at most -/
def rangeV (M : Mem) (x : Value) : Option (Value × Mem) := match x with
  | .map (some b) => match M.get b with
    | some blk => bif Nat.beq blk.elem mapTag then (match blk.cells with
      | .int .i64 c :: _ => some (.pointer (some ⟨M.next, 0, none⟩), (M.put M.next ⟨[.map (some b), .int .i64 c, .int .i64 c], mapTag + 1, true⟩).bump 1)
      | _ => none) else none
    | none => none
  | _ => none
def isSt (b : Int) : Value → Bool
  | .int _ n => decide (n = b)
  | _ => false
/-- the entries that were not met yet -/
def leftE (seen : List Value) : List Value → Option (List (Value × Value × Int))
  | [] => some []
  | .tuple ⟨[k, v, .int .i64 b]⟩ :: l => match leftE seen l with
    | some r => bif seen.any (isSt b) then some r else some ((k, v, b) :: r)
    | none => none
  | _ => none
end Go.Proofs.YtopblipficpilaaGreatDoor.AY

/- Maps gone through; keys deleted; cells copied. -/
namespace Go.Proofs.YtopblipficpilaaGreatDoor.AY
open Go
set_option linter.unusedVariables false
set_option linter.unusedSimpArgs false

theorem rangeV_ok {P : Program} {o : Oper} {ev : Operand → Option Value} {M M' : Mem} {t kt et : TypeId} {p : Operand} {x v : Value} (ho : o.op = .range t p) (ht : P.underlying t = some (.map kt et)) (hx : ev p = some x) (h : rangeV M x = some (v, M')) :
    EffOk P o ev M v M' := by
  refine EffOk.of_run fun ρ a w hop hr hf => ?_
  have e1 := hop.at (x := p) (by simp [ho, Op.operands]) hx
  generalize hx' : a.eval p = x' at e1
  unfold rangeV at h
  split at h
  · rename_i b
    cases e1 with
    | mapr hfb =>
      rename_i f
      split at h
      · rename_i blk hb
        cases he : Nat.beq blk.elem mapTag with
        | false => simp [he] at h
        | true =>
          simp only [he, cond_true] at h
          split at h
          · rename_i c cs hcells
            obtain ⟨hob, hel, es, n, rfl, hh, hen⟩ := map_block hr hb hfb he hcells
            simp only [Option.some.injEq, Prod.mk.injEq] at h
            obtain ⟨rfl, rfl⟩ := h
            have hid : ρ M.next = none := hf _ (Nat.le_refl _)
            have hbn : b ≠ M.next := fun h => by rw [h, hid] at hfb; cases hfb
            have hex : (execOp a.eval o).run P w = .ok (.value (.pointer (some ⟨w.heap.size, 0, none⟩))) { w with heap := w.heap.push (.mapIter (some f.blk) n #[] n) } := by
              unfold execOp
              simp only [ho, hx', Instr.range, Sem.run_bind, run_underlying ht, Result.andThen_ok, run_getObj' hh, Sem.run_pure, run_newObj]
            obtain ⟨g1, g2, _⟩ := hr.allocObj (id := M.next) hid (cells := [.map (some b), .int .i64 (n : Nat), .int .i64 (n : Nat)]) (elem := mapTag + 1) (o := .mapIter (some f.blk) n #[] n) rfl (w' := { w with heap := w.heap.push (.mapIter (some f.blk) n #[] n) }) rfl ⟨rfl, rfl, rfl⟩
              (ObjR.iter (seen := []) (by unfold updE; rw [if_neg hbn]; exact hfb))
            refine ⟨_, updE ρ M.next ⟨w.heap.size, 0, 0, mapTag + 1⟩, _, .inl hex, ?_, ?_, free_upd hf rfl, ⟨?_, fun j hj hn => ?_, Nat.le_succ _⟩⟩
            · have := VR.ptr (P := P) (ρ := updE ρ M.next ⟨w.heap.size, 0, 0, mapTag + 1⟩) (i := M.next) (o := 0) (f := ⟨w.heap.size, 0, 0, mapTag + 1⟩) (by simp [updE])
              simpa using this
            · rw [show ((M.put M.next ⟨[.map (some b), .int .i64 (n : Nat), .int .i64 (n : Nat)], mapTag + 1, true⟩).bump 1).get = (M.put M.next ⟨[.map (some b), .int .i64 (n : Nat), .int .i64 (n : Nat)], mapTag + 1, true⟩).get from rfl, put_get]; exact g1
            · rw [show ((M.put M.next ⟨[.map (some b), .int .i64 (n : Nat), .int .i64 (n : Nat)], mapTag + 1, true⟩).bump 1).get = (M.put M.next ⟨[.map (some b), .int .i64 (n : Nat), .int .i64 (n : Nat)], mapTag + 1, true⟩).get from rfl, put_get]; exact g2
            · unfold updE
              have : j ≠ M.next := by omega
              simp [this, hn]
          · cases h
      · cases h
  · cases h

inductive LeftR (P : Program) (ρ : Emb) : List (Value × Value × Int) → List MapEntry → Prop
  | nil : LeftR P ρ [] []
  | cons {k v : Value} {e : MapEntry} {r : List (Value × Value × Int)} {es : List MapEntry} (hk : VR P ρ k e.key) (hv : VR P ρ v e.val) (h : LeftR P ρ r es) : LeftR P ρ ((k, v, (e.born : Int)) :: r) (e :: es)
theorem seen_any (l : List Nat) (b : Nat) : (seenC l).any (isSt (b : Int)) = l.contains b := by
  induction l with
  | nil => rfl
  | cons a l ih =>
    simp only [seenC, List.map_cons, List.any_cons, List.contains_cons] at ih ⊢
    rw [ih]
    congr 1
    by_cases h : a = b
    · subst h; simp [isSt]
    · have : ¬ ((a : Int) = (b : Int)) := by omega
      simp [isSt, this, h, Ne.symm h]
theorem leftE_ok {P : Program} {ρ : Emb} {l : List Nat} {cs : List Value} {es : List MapEntry} (he : EntR P ρ cs es) : ∀ {r : List (Value × Value × Int)}, leftE (seenC l) cs = some r → LeftR P ρ r (es.filter fun e => !l.toArray.contains e.born) := by
  induction he with
  | nil => intro r h; simp only [leftE, Option.some.injEq] at h; subst h; exact .nil
  | @cons k v e cs es hk hv _ ih =>
    intro r h
    simp only [leftE, seen_any] at h
    cases hl : leftE (seenC l) cs with
    | none => simp [hl] at h
    | some r' =>
      simp only [hl] at h
      have := ih hl
      have hta : l.toArray.contains e.born = l.contains e.born := by simp
      cases hc : l.contains e.born with
      | true => simp only [hc, cond_true, Option.some.injEq] at h; subst h; rw [List.filter_cons, hta, hc]; simpa using this
      | false => simp only [hc, cond_false, Option.some.injEq] at h; subst h; rw [List.filter_cons, hta, hc]; exact .cons hk hv this
/-- it is not so that all that was met is gone and only new things are there -/
def guardE (last : Int) (seen cs : List Value) : Bool := seen.isEmpty || cs.isEmpty || cs.any fun x => match x with
  | .tuple ⟨[_, _, .int .i64 b]⟩ => decide (b < last)
  | _ => false
theorem guardE_ok {P : Program} {ρ : Emb} {last : Nat} {l : List Nat} {cs : List Value} {es : Array MapEntry} (he : EntR P ρ cs es.toList) (h : guardE last (seenC l) cs = true) : (!l.toArray.isEmpty && !es.isEmpty && es.all (fun e => decide (e.born ≥ last))) = false := by
  have key : ∀ {cs : List Value} {es : List MapEntry}, EntR P ρ cs es → (cs.any fun x => match x with | .tuple ⟨[_, _, .int .i64 b]⟩ => decide (b < (last : Int)) | _ => false) = true → es.all (fun e => decide (e.born ≥ last)) = false := fun he => by
    induction he with
    | nil => intro h; cases h
    | cons _ _ _ ih =>
      intro h
      simp only [List.any_cons, Bool.or_eq_true] at h
      rw [List.all_cons]
      rcases h with h | h
      · have := of_decide_eq_true h
        rw [decide_eq_false (by omega)]; rfl
      · rw [ih h, Bool.and_false]
  simp only [guardE, Bool.or_eq_true] at h
  rcases h with (h | h) | h
  · cases l with
    | nil => rfl
    | cons a l => simp [seenC] at h
  · have key2 : ∀ L, EntR P ρ [] L → L = [] := fun L h => by cases h; rfl
    have : es.toList = [] := by
      cases cs with
      | nil => exact key2 _ he
      | cons _ _ => cases h
    have : es = #[] := by apply Array.ext'; exact this
    subst this; simp
  · have := key he h
    rw [← Array.all_toList, this, Bool.and_false]

theorem run_next_over {P : Program} {w : World} {r m s t n : Nat} {l : List Nat} {es : Array MapEntry} {ty : TypeId} (hh : w.heap[r]? = some (.mapIter (some m) s l.toArray t)) (hm : w.heap[m]? = some (.map es n))
    (hg : (!l.toArray.isEmpty && !es.isEmpty && es.all (fun e => decide (e.born ≥ t))) = false) (hl : es.filter (fun e => !l.toArray.contains e.born) = #[]) :
    (Instr.next (.pointer (some ⟨r, 0, none⟩)) false ty).run P w = .ok (.tuple #[.bool false]) w := by
  simp only [Instr.next, Sem.run_bind, run_getObj' hh, Result.andThen_ok, run_getObj' hm, hg, Bool.false_eq_true, if_false, hl]
  have hq : (Question.mapNext 1).forced = true := rfl
  have h1 : ∀ p : MapEntry → Bool, (#[] : Array MapEntry).filter p = #[] := fun p => by simp
  simp only [h1, show ((if (#[] : Array MapEntry).isEmpty = true then #[none] else #[]) ++ ((#[] : Array MapEntry) ++ (#[] : Array MapEntry)).map some : Array (Option MapEntry)) = #[none] from by simp, show (#[none] : Array (Option MapEntry)).size = 1 from rfl, run_choose, hq, if_true, Result.andThen_ok, show (#[none] : Array (Option MapEntry))[0]? = some none from rfl, Sem.run_pure]
theorem run_next_one {P : Program} {w : World} {r m s t n : Nat} {l : List Nat} {es : Array MapEntry} {ty : TypeId} {e : MapEntry} (hh : w.heap[r]? = some (.mapIter (some m) s l.toArray t)) (hm : w.heap[m]? = some (.map es n))
    (hg : (!l.toArray.isEmpty && !es.isEmpty && es.all (fun e => decide (e.born ≥ t))) = false) (hl : es.filter (fun e => !l.toArray.contains e.born) = #[e]) (hb : e.born < s) :
    (Instr.next (.pointer (some ⟨r, 0, none⟩)) false ty).run P w = .ok (.tuple #[.bool true, e.key, e.val]) { w with heap := w.heap.setIfInBounds r (.mapIter (some m) s (l.toArray.push e.born) n) } := by
  have h1 : (#[e] : Array MapEntry).filter (fun e => decide (e.born < s)) = #[e] := by simp [hb]
  have h2 : (#[e] : Array MapEntry).filter (fun e => decide (e.born ≥ s)) = #[] := by simp; omega
  simp only [Instr.next, Sem.run_bind, run_getObj' hh, Result.andThen_ok, run_getObj' hm, hg, Bool.false_eq_true, if_false, hl, h1, h2]
  have hq : (Question.mapNext 1).forced = true := rfl
  simp only [show ((if (#[e] : Array MapEntry).isEmpty = true then #[none] else #[]) ++ ((#[e] : Array MapEntry) ++ (#[] : Array MapEntry)).map some : Array (Option MapEntry)) = #[some e] from by simp, show (#[some e] : Array (Option MapEntry)).size = 1 from rfl, run_choose, hq, if_true, Result.andThen_ok, show (#[some e] : Array (Option MapEntry))[0]? = some (some e) from rfl, Sem.run_bind, run_setObj' hh, Sem.run_pure]

def nextV (M : Mem) (x : Value) : Option (Value × Mem) := match x with
  | .pointer (some ⟨b, 0, none⟩) => match M.get b with
    | some blk => bif Nat.beq blk.elem (mapTag + 1) && blk.rw then (match blk.cells with
      | .map (some mb) :: .int .i64 since :: .int .i64 last :: seen => match M.get mb with
        | some mblk => bif Nat.beq mblk.elem mapTag then (match mblk.cells with
          | .int .i64 c :: cs => bif guardE last seen cs then (match leftE seen cs with
            | some [] => some (.tuple ⟨[.bool false]⟩, M)
            | some [(k, v, bn)] => bif decide (bn < since) then some (.tuple ⟨[.bool true, k, v]⟩, M.put b ⟨.map (some mb) :: .int .i64 since :: .int .i64 c :: (seen ++ [.int .i64 bn]), mapTag + 1, true⟩) else none
            | _ => none) else none
          | _ => none) else none
        | none => none
      | _ => none) else none
    | none => none
  | _ => none
/-- an iterator's block -/
theorem iter_block {P : Program} {ρ : Emb} {m : Mm} {w : World} (hr : HR P ρ m w) {b : Nat} {blk : Blk} (hb : m b = some blk) {f : Inf} (hf : ρ b = some f) (he : Nat.beq blk.elem (mapTag + 1) = true) {mb : Nat} {since last : Int} {seen : List Value} (hc : blk.cells = .map (some mb) :: .int .i64 since :: .int .i64 last :: seen) :
    isObj blk.elem = true ∧ blk.elem = mapTag + 1 ∧ f.shift = 0 ∧ ∃ g s t l, ρ mb = some g ∧ since = (s : Nat) ∧ last = (t : Nat) ∧ seen = seenC l ∧ w.heap[f.blk]? = some (.mapIter (some g.blk) s l.toArray t) := by
  have he := Nat.eq_of_beq_eq_true he
  obtain ⟨f', hf', ho⟩ := hr.one b blk hb
  rw [hf] at hf'; cases hf'
  have hob : isObj blk.elem = true := by rw [he]; rfl
  obtain ⟨hz, o, h1, h2⟩ := ho.objOf hob
  refine ⟨hob, he, hz, ?_⟩
  rw [hc, he] at h2
  generalize hE : mapTag + 1 = E at h2
  generalize hC : (Value.map (some mb) :: Value.int .i64 since :: Value.int .i64 last :: seen) = C at h2
  cases h2 with
  | map h3 => simp [mapTag] at hE
  | glob h3 => cases hC
  | iter h3 =>
    injection hC with q1 q2
    injection q2 with q2 q3
    injection q3 with q3 q4
    injection q1 with q1
    injection q1 with q1
    injection q2 with _ q2
    injection q3 with _ q3
    subst q1
    exact ⟨_, _, _, _, h3, q2, q3, q4, h1⟩

theorem nextV_ok {P : Program} {o : Oper} {ev : Operand → Option Value} {M M' : Mem} {p : Operand} {x v : Value} (ho : o.op = .next p false) (hx : ev p = some x) (h : nextV M x = some (v, M')) : EffOk P o ev M v M' := by
  refine EffOk.of_run fun ρ a w hop hr hf => ?_
  have e1 := hop.at (x := p) (by simp [ho, Op.operands]) hx
  generalize hx' : a.eval p = x' at e1
  unfold nextV at h
  split at h
  · rename_i b
    cases e1 with
    | ptr hfb =>
      rename_i f
      split at h
      · rename_i blk hb
        have hb' := hb
        cases hc : (Nat.beq blk.elem (mapTag + 1) && blk.rw) with
        | false => simp [hc] at h
        | true =>
          simp only [hc, cond_true] at h
          simp only [Bool.and_eq_true] at hc
          obtain ⟨he, hrw⟩ := hc
          split at h
          · rename_i mb since last seen hcells
            obtain ⟨hob, hel, hz, g, s, t, l, hfm, rfl, rfl, rfl, hh⟩ := iter_block hr hb hfb he hcells
            split at h
            · rename_i mblk hmb
              cases hme : Nat.beq mblk.elem mapTag with
              | false => simp [hme] at h
              | true =>
                simp only [hme, cond_true] at h
                split at h
                · rename_i c cs hmc
                  obtain ⟨_, _, es, n, rfl, hhm, hen⟩ := map_block hr hmb hfm hme hmc
                  cases hg : guardE t (seenC l) cs with
                  | false => simp [hg] at h
                  | true =>
                    simp only [hg, cond_true] at h
                    have hguard := guardE_ok hen hg
                    split at h
                    · rename_i hl
                      have hL := leftE_ok hen hl
                      cases h
                      have hleft : es.filter (fun e => !l.toArray.contains e.born) = #[] := by
                        apply Array.ext'
                        rw [Array.toList_filter]
                        generalize es.toList.filter (fun e => !l.toArray.contains e.born) = L at hL
                        cases hL; rfl
                      have hex : (execOp a.eval o).run P w = .ok (.value (.tuple #[.bool false])) w := by
                        unfold execOp
                        simp only [ho, hx', hz, Nat.zero_add, Sem.run_bind, run_next_over hh hhm hguard hleft, Result.andThen_ok, Sem.run_pure]
                      refine ⟨_, ρ, w, .inl hex, .tuple rfl fun i u u' hu hu' => ?_, hr, hf, Grow.refl _ _ _⟩
                      match i with
                      | 0 => simp at hu hu'; subst hu; subst hu'; exact .bool _
                      | n + 1 => simp at hu
                    · rename_i k u bn hl
                      have hL := leftE_ok hen hl
                      cases hbs : decide (bn < (s : Int)) with
                      | false => simp [hbs] at h
                      | true =>
                        simp only [hbs, cond_true, Option.some.injEq, Prod.mk.injEq] at h
                        obtain ⟨rfl, rfl⟩ := h
                        obtain ⟨e, hleft, hk, hv, rfl⟩ : ∃ e, es.filter (fun e => !l.toArray.contains e.born) = #[e] ∧ VR P ρ k e.key ∧ VR P ρ u e.val ∧ bn = (e.born : Int) := by
                          have : (es.filter (fun e => !l.toArray.contains e.born)).toList = es.toList.filter (fun e => !l.toArray.contains e.born) := Array.toList_filter ..
                          rw [← this] at hL
                          generalize es.filter (fun e => !l.toArray.contains e.born) = L at hL
                          obtain ⟨L⟩ := L
                          simp only at hL
                          cases hL with
                          | cons q1 q2 q3 => cases q3; exact ⟨_, rfl, q1, q2, rfl⟩
                        have hb : e.born < s := by have := of_decide_eq_true hbs; omega
                        have hex : (execOp a.eval o).run P w = .ok (.value (.tuple #[.bool true, e.key, e.val])) { w with heap := w.heap.setIfInBounds f.blk (.mapIter (some g.blk) s (l.toArray.push e.born) n) } := by
                          unfold execOp
                          simp only [ho, hx', hz, Nat.zero_add, Sem.run_bind, run_next_one hh hhm hguard hleft hb, Result.andThen_ok, Sem.run_pure]
                        have hor : ObjR P ρ (.map (some mb) :: .int .i64 (s : Nat) :: .int .i64 (n : Nat) :: (seenC l ++ [.int .i64 (e.born : Nat)])) (mapTag + 1) (.mapIter (some g.blk) s (l.toArray.push e.born) n) := by
                          have := ObjR.iter (P := P) (ρ := ρ) (i := mb) (f := g) (since := s) (stepped := n) (seen := l ++ [e.born]) hfm
                          have e1 : seenC (l ++ [e.born]) = seenC l ++ [.int .i64 (e.born : Nat)] := by simp [seenC]
                          have e2 : (l ++ [e.born]).toArray = l.toArray.push e.born := by simp
                          rw [e1, e2] at this
                          exact this
                        obtain ⟨g1, g2⟩ := hr.writeObj hb' hob hrw hfb (by rw [hel]; exact hor) (w' := { w with heap := w.heap.setIfInBounds f.blk (.mapIter (some g.blk) s (l.toArray.push e.born) n) }) rfl ⟨rfl, rfl, rfl⟩
                        rw [hel] at g1 g2
                        refine ⟨_, ρ, _, .inl hex, .tuple rfl fun i x x' hu hu' => ?_, by rw [put_get]; exact g1, (by rw [Mem.next_put]; exact hf), ⟨by rw [put_get]; exact g2, fun _ _ h => h, Nat.le_of_eq (Mem.next_put _ _ _).symm⟩⟩
                        match i with
                        | 0 => simp at hu hu'; subst hu; subst hu'; exact .bool _
                        | 1 => simp at hu hu'; subst hu; subst hu'; exact hk
                        | 2 => simp at hu hu'; subst hu; subst hu'; exact hv
                        | n + 3 => simp at hu
                    · cases h
                · cases h
            · cases h
          · cases h
      · cases h
  · cases h

/-- the entry that was met last -/
def entryAt (stamp : Int) : List Value → Option Value
  | [] => none
  | .tuple ⟨[k, v, .int .i64 b]⟩ :: l => bif decide (b = stamp) then some (.tuple ⟨[k, v]⟩) else entryAt stamp l
  | _ => none
def entryV (m : Mm) (x : Value) : Option Value := match x with
  | .pointer (some ⟨b, 0, none⟩) => match m b with
    | some blk => bif Nat.beq blk.elem (mapTag + 1) then (match blk.cells with
      | .map (some mb) :: .int .i64 since :: .int .i64 last :: seen => match m mb, seen.getLast? with
        | some mblk, some (.int .i64 stamp) => bif Nat.beq mblk.elem mapTag then (match mblk.cells with
          | .int .i64 c :: cs => bif decide (c = last) then entryAt stamp cs else none
          | _ => none) else none
        | _, _ => none
      | _ => none) else none
    | none => none
  | _ => none
theorem entryAt_ok {P : Program} {ρ : Emb} {s : Nat} {cs : List Value} {es : List MapEntry} (he : EntR P ρ cs es) : ∀ {v : Value}, entryAt s cs = some v → ∃ e, es.find? (·.born == s) = some e ∧ VR P ρ v (.tuple #[e.key, e.val]) := by
  induction he with
  | nil => intro v h; cases h
  | @cons k u e cs es hk hv _ ih =>
    intro v h
    simp only [entryAt] at h
    by_cases hb : e.born = s
    · have : decide ((e.born : Int) = (s : Int)) = true := by simp [hb]
      simp only [this, cond_true, Option.some.injEq] at h
      subst h
      refine ⟨e, by simp [List.find?_cons, hb], .tuple rfl fun i x x' hx hx' => ?_⟩
      match i with
      | 0 => simp at hx hx'; subst hx; subst hx'; exact hk
      | 1 => simp at hx hx'; subst hx; subst hx'; exact hv
      | n + 2 => simp at hx
    · have : decide ((e.born : Int) = (s : Int)) = false := by simp; omega
      simp only [this, cond_false] at h
      obtain ⟨e', q1, q2⟩ := ih h
      exact ⟨e', by rw [List.find?_cons, show (e.born == s) = false by simpa using hb]; exact q1, q2⟩
theorem seen_last {l : List Nat} {stamp : Int} (h : (seenC l).getLast? = some (.int .i64 stamp)) : ∃ n : Nat, stamp = n ∧ l.toArray.back? = some n := by
  simp only [seenC, List.getLast?_map] at h
  cases hl : l.getLast? with
  | none => rw [hl] at h; cases h
  | some n =>
    rw [hl] at h
    simp only [Option.map_some, Option.some.injEq, Value.int.injEq, true_and] at h
    exact ⟨n, h.symm, by simpa using hl⟩
theorem run_entryV {P : Program} {w : World} {ρ : Emb} {m : Mm} {x x' v : Value} (h : entryV m x = some v) (hx : VR P ρ x x') (hr : HR P ρ m w) : ∃ v', (Instr.entry x').run P w = .ok v' w ∧ VR P ρ v v' := by
  unfold entryV at h
  split at h
  · rename_i b
    cases hx with
    | ptr hfb =>
      rename_i f
      split at h
      · rename_i blk hb
        cases he : Nat.beq blk.elem (mapTag + 1) with
        | false => simp [he] at h
        | true =>
          simp only [he, cond_true] at h
          split at h
          · rename_i mb since last seen hcells
            obtain ⟨hob, hel, hz, g, s, t, l, hfm, rfl, rfl, rfl, hh⟩ := iter_block hr hb hfb he hcells
            split at h
            · rename_i mblk stamp hmb hst
              obtain ⟨n0, rfl, hback⟩ := seen_last hst
              cases hme : Nat.beq mblk.elem mapTag with
              | false => simp [hme] at h
              | true =>
                simp only [hme, cond_true] at h
                split at h
                · rename_i c cs hmc
                  obtain ⟨_, _, es, n, rfl, hhm, hen⟩ := map_block hr hmb hfm hme hmc
                  cases hcl : decide ((n : Int) = (t : Int)) with
                  | false => simp [hcl] at h
                  | true =>
                    simp only [hcl, cond_true] at h
                    have hnt : n = t := by have := of_decide_eq_true hcl; omega
                    subst hnt
                    obtain ⟨e, q1, q2⟩ := entryAt_ok hen h
                    refine ⟨_, ?_, q2⟩
                    have q1' : es.find? (·.born == n0) = some e := by rw [← Array.find?_toList]; exact q1
                    rw [hz]
                    simp only [Instr.entry, Nat.zero_add, Sem.run_bind, run_getObj' hh, Result.andThen_ok, hback, run_getObj' hhm, bne_self_eq_false, Bool.false_eq_true, if_false, q1', Sem.run_pure]
                · cases h
            · cases h
          · cases h
      · cases h
  · cases h

/-! ### builtins that work on memory -/
theorem execOp_copy {P : Program} {w : World} {o : Oper} {a : Act} {p q : Operand} {t tx : TypeId} (ho : o.op = .call { callee := .builtin .copy, args := #[p, q], argTypes := #[t, tx] }) :
    (execOp a.eval o).run P w = ((Builtin.copy_ #[t, tx] o.type #[a.eval p, a.eval q]).run P w).andThen fun v w' => .ok (.value v) w' := by
  unfold execOp
  simp only [ho, resolve, Sem.run_bind, Sem.run_pure, Result.andThen_ok, invoke, builtin, List.map_toArray, List.map_cons, List.map_nil]
theorem execOp_delete {P : Program} {w : World} {o : Oper} {a : Act} {p q : Operand} {t tx : TypeId} (ho : o.op = .call { callee := .builtin .delete, args := #[p, q], argTypes := #[t, tx] }) :
    (execOp a.eval o).run P w = ((Builtin.delete_ #[t, tx] o.type #[a.eval p, a.eval q]).run P w).andThen fun v w' => .ok (.value v) w' := by
  unfold execOp
  simp only [ho, resolve, Sem.run_bind, Sem.run_pure, Result.andThen_ok, invoke, builtin, List.map_toArray, List.map_cons, List.map_nil]

def deleteV (P : Program) (M : Mem) (t : TypeId) (x k : Value) : Option Mem := match P.underlying t, x with
  | some (.map kt _), .map (some b) => match P.underlying kt, M.get b with
    | some d, some blk => bif keyKind d && Nat.beq blk.elem mapTag && blk.rw then (match blk.cells with
      | .int .i64 c :: cs => match findE d k cs 0 with
        | some (some (i, _)) => some (M.put b ⟨.int .i64 c :: cs.eraseIdx i, mapTag, true⟩)
        | some none => some (M.put b ⟨.int .i64 c :: cs, mapTag, true⟩)
        | none => none
      | _ => none) else none
    | _, _ => none
  | _, _ => none
theorem deleteV_ok {P : Program} {o : Oper} {ev : Operand → Option Value} {M M' : Mem} {t tx : TypeId} {p q : Operand} {x k : Value} (ho : o.op = .call { callee := .builtin .delete, args := #[p, q], argTypes := #[t, tx] }) (hx : ev p = some x) (hk : ev q = some k) (h : deleteV P M t x k = some M') :
    EffOk P o ev M undef M' := by
  refine EffOk.of_run fun ρ a w hop hr hf => ?_
  have e1 := hop.at (x := p) (by simp [ho, Op.operands, Call.operands]) hx
  have e2 := hop.at (x := q) (by simp [ho, Op.operands, Call.operands]) hk
  rw [execOp_delete ho]
  generalize a.eval p = x' at e1
  generalize a.eval q = k' at e2
  unfold deleteV at h
  split at h
  · rename_i kt et b h1
    cases e1 with
    | mapr hfb =>
      rename_i f
      split at h
      · rename_i d blk h2 hb
        cases hc : (keyKind d && Nat.beq blk.elem mapTag && blk.rw) with
        | false => simp [hc] at h
        | true =>
          simp only [hc, cond_true] at h
          simp only [Bool.and_eq_true] at hc
          obtain ⟨⟨hd, he⟩, hrw⟩ := hc
          split at h
          · rename_i c cs hcells
            obtain ⟨hob, hel, es, n, rfl, hh, hen⟩ := map_block hr hb hfb he hcells
            split at h
            · rename_i i u hfi
              obtain ⟨_, e, q1, q2, q3, q4, q5⟩ := findE_some e2 hen hfi
              cases h
              have hex : (Builtin.delete_ #[t, tx] o.type #[.map (some f.blk), k']).run P w = .ok (.tuple #[]) { w with heap := w.heap.setIfInBounds f.blk (.map (es.eraseIdxIfInBounds i) n) } := by
                simp only [Builtin.delete_, List.getElem?_toArray, List.getElem?_cons_zero, List.getElem?_cons_succ, Sem.run_bind, run_underlying h1, Result.andThen_ok, run_getObj' hh, run_checkKey h2 hd, run_findKey h2 q2, run_setObj' hh, Sem.run_pure]
              obtain ⟨g1, g2⟩ := hr.writeObj (cells := .int .i64 (n : Nat) :: cs.eraseIdx i) hb hob hrw hfb (o := .map (es.eraseIdxIfInBounds i) n)
                (by rw [hel]; exact .map (by rw [Array.toList_eraseIdxIfInBounds]; exact hen.erase i)) (w' := { w with heap := w.heap.setIfInBounds f.blk (.map (es.eraseIdxIfInBounds i) n) }) rfl ⟨rfl, rfl, rfl⟩
              rw [hel] at g1 g2
              exact ⟨undef, ρ, _, .inl (by rw [hex]; rfl), VR.undef P ρ, by rw [put_get]; exact g1, (by rw [Mem.next_put]; exact hf), ⟨by rw [put_get]; exact g2, fun _ _ h => h, Nat.le_of_eq (Mem.next_put _ _ _).symm⟩⟩
            · rename_i hfi
              have q2 := findE_none e2 hen hfi
              cases h
              have hex : (Builtin.delete_ #[t, tx] o.type #[.map (some f.blk), k']).run P w = .ok (.tuple #[]) { w with heap := w.heap.setIfInBounds f.blk (.map es n) } := by
                simp only [Builtin.delete_, List.getElem?_toArray, List.getElem?_cons_zero, List.getElem?_cons_succ, Sem.run_bind, run_underlying h1, Result.andThen_ok, run_getObj' hh, run_checkKey h2 hd, run_findKey h2 q2, run_setObj' hh, Sem.run_pure]
              obtain ⟨g1, g2⟩ := hr.writeObj (cells := .int .i64 (n : Nat) :: cs) hb hob hrw hfb (o := .map es n) (by rw [hel]; exact .map hen) (w' := { w with heap := w.heap.setIfInBounds f.blk (.map es n) }) rfl ⟨rfl, rfl, rfl⟩
              rw [hel] at g1 g2
              exact ⟨undef, ρ, _, .inl (by rw [hex]; rfl), VR.undef P ρ, by rw [put_get]; exact g1, (by rw [Mem.next_put]; exact hf), ⟨by rw [put_get]; exact g2, fun _ _ h => h, Nat.le_of_eq (Mem.next_put _ _ _).symm⟩⟩
            · cases h
          · cases h
      · cases h
  · cases h

def copyV (P : Program) (M : Mem) (t : TypeId) (d s : Value) : Option (Value × Mem) := match P.underlying t, d, s with
  | some (.slice e), .slice (some ⟨b, o, none⟩) dl _, .slice sb sl sc => match P.info? e with
    | some i => match contentV M.get i.size (.slice sb (min sl dl) sc) with
      | some (n, cells) => if n = 0 then some (.int .i64 (0 : Nat), M) else match rowsOf M.get b with
        | some blk => if blk.rw = true ∧ oneCells cells = true ∧ o + cells.length ≤ blk.cells.length then some (.int .i64 (n : Nat), M.put b { blk with cells := splice blk.cells o cells }) else none
        | none => none
      | none => none
    | none => none
  | _, _, _ => none
theorem copyV_ok {P : Program} {o : Oper} {ev : Operand → Option Value} {M M' : Mem} {t tx : TypeId} {p q : Operand} {d s v : Value} (ho : o.op = .call { callee := .builtin .copy, args := #[p, q], argTypes := #[t, tx] }) (hx : ev p = some d) (hs : ev q = some s)
    (h : copyV P M t d s = some (v, M')) : EffOk P o ev M v M' := by
  refine EffOk.of_run fun ρ a w hop hr hf => ?_
  have e1 := hop.at (x := p) (by simp [ho, Op.operands, Call.operands]) hx
  have e2 := hop.at (x := q) (by simp [ho, Op.operands, Call.operands]) hs
  rw [execOp_copy ho]
  generalize a.eval p = d' at e1
  generalize a.eval q = s' at e2
  unfold copyV at h
  split at h
  · rename_i e b off dl dc sb sl sc h1
    cases e1 with
    | slice hfb hn hc hp hroom hsp =>
      rename_i c' pp sp f
      split at h
      · rename_i i h2
        split at h
        · rename_i n cells hcon
          -- the source, cut
          obtain ⟨sb', sc', rfl, hcut⟩ : ∃ sb' sc', s' = .slice sb' sl sc' ∧ VR P ρ (.slice sb (min sl dl) sc) (.slice sb' (min sl dl) sc') := by
            cases e2 with
            | nils => exact ⟨none, 0, rfl, by rw [Nat.zero_min]; exact .nils⟩
            | slice g1 g2 g3 g4 g5 g6 =>
              refine ⟨_, _, rfl, .slice g1 (by omega) g3 (fun h => g4 ?_) g5 g6⟩
              rcases h with h | h
              · exact .inl (by omega)
              · exact .inr h
          obtain ⟨k1, cells', k2, k3, k4⟩ := run_content hcon hcut hr
          have hn' : n = min sl dl := by
            simp only [Builtin.lenOf] at k1
            injection k1 with k1
            exact k1.symm
          have hfirst : (Builtin.firstCells i.size (Nat.min sl dl) (.slice sb' sl sc')).run P w = .ok cells'.toArray w := by
            have := k4 w fun _ _ => rfl
            rw [hn'] at this
            cases sb' <;> exact this
          have hrun : (Builtin.copy_ #[t, tx] o.type #[.slice (some ⟨f.blk, pp, sp⟩) dl c', .slice sb' sl sc']).run P w = ((storeCells ⟨f.blk, pp, sp⟩ cells').run P w).andThen fun _ w' => .ok (.int .i64 (n : Nat)) w' := by
            simp only [Builtin.copy_, List.getElem?_toArray, List.getElem?_cons_zero, List.getElem?_cons_succ, Sem.run_bind, run_underlying h1, Result.andThen_ok, Builtin.lenOf, Sem.run_pure, run_sizeOf' h2, hfirst, hn']
            rfl
          split at h
          · rename_i h0
            cases h
            subst h0
            have hnil : cells' = [] := List.eq_nil_of_length_eq_zero (by rw [k2, Nat.zero_mul])
            subst hnil
            exact ⟨_, ρ, w, .inl (by rw [hrun]; rfl), .int _ _, hr, hf, Grow.refl _ _ _⟩
          · rename_i h0
            split at h
            · rename_i blk hb0
              have hob := (rowsOf_some hb0).2
              have hb := (rowsOf_some hb0).1
              split at h
              · rename_i hcond
                obtain ⟨hrw, hones, hle⟩ := hcond
                cases h
                obtain ⟨f', hf', hone⟩ := hr.one b blk hb
                rw [hfb] at hf'; cases hf'
                obtain rfl := hsp (by omega)
                obtain rfl := hp (.inl (by omega))
                obtain ⟨cs, fz, r1, r2, r3, r4⟩ := hone.own hob hrw
                have hroom' := (hone.cellsOf hob).1
                have hl := k3.length
                have hlen : f.shift + off + 0 + cells'.length ≤ cs.size := by omega
                have hst := run_storeCells_own (P := P) (o := f.shift + off) cells' 0 w cs r1 (r3 hrw) hlen (by rw [k3.ones]; exact hones)
                have hspl : off + cells.length ≤ blk.cells.length := hle
                obtain ⟨q1, q2⟩ := hr.write (cells := splice blk.cells off cells) (cs' := setR cs (f.shift + off + 0) cells') (fz := fz) hb hob hrw hfb (by rw [setR_size]; exact r2) (by rw [setR_size]; exact r3 hrw) (splice_length hspl) (fun j u hu => by
                  rw [splice_get hspl] at hu
                  rw [setR_get _ _ _ _ hlen]
                  by_cases hj : off ≤ j ∧ j < off + cells.length
                  · rw [if_pos hj] at hu
                    rw [if_pos (by omega)]
                    have := k3.at _ _ hu
                    rw [show f.shift + j - (f.shift + off + 0) = j - off by omega]
                    exact this
                  · rw [if_neg hj] at hu
                    rw [if_neg (by omega)]
                    exact r4 j u hu) (w' := { w with heap := w.heap.setIfInBounds f.blk (.cells (setR cs (f.shift + off + 0) cells') f.elem fz) }) rfl ⟨rfl, rfl, rfl⟩
                exact ⟨_, ρ, _, .inl (by rw [hrun, hst]; rfl), .int _ _, by rw [put_get]; exact q1, (by rw [Mem.next_put]; exact hf), ⟨by rw [put_get]; exact q2, fun _ _ h => h, Nat.le_of_eq (Mem.next_put _ _ _).symm⟩⟩
              · cases h
            · cases h
        · cases h
      · cases h
  · cases h

def lenM (P : Program) (m : Mm) (t : TypeId) (x : Value) : Option Value := match P.underlying t with
  | some (.map _ _) => match entC m x with
    | some cs => some (.int .i64 cs.length)
    | none => none
  | _ => none
theorem EntR.length {P : Program} {ρ : Emb} {cs : List Value} {es : List MapEntry} (h : EntR P ρ cs es) : cs.length = es.length := by induction h <;> simp_all
theorem run_lenM {P : Program} {w : World} {ρ : Emb} {m : Mm} {t ty : TypeId} {x x' v : Value} (h : lenM P m t x = some v) (hx : VR P ρ x x') (hr : HR P ρ m w) : ∃ v', (Builtin.len_ #[t] ty #[x']).run P w = .ok v' w ∧ VR P ρ v v' := by
  unfold lenM at h
  split at h
  · rename_i kt et h1
    split at h
    · rename_i cs hc
      cases h
      refine ⟨_, ?_, .int _ _⟩
      rcases entC_ok hc hx hr with ⟨rfl, rfl⟩ | ⟨r, es, c, rfl, hh, he⟩
      · simp only [Builtin.len_, List.getElem?_toArray, List.getElem?_cons_zero, Sem.run_bind, run_underlying h1, Result.andThen_ok]; rfl
      · simp only [Builtin.len_, List.getElem?_toArray, List.getElem?_cons_zero, Sem.run_bind, run_underlying h1, Result.andThen_ok, run_getObj' hh, Sem.run_pure, he.length]; rfl
    · cases h
  · cases h
end Go.Proofs.YtopblipficpilaaGreatDoor.AY
