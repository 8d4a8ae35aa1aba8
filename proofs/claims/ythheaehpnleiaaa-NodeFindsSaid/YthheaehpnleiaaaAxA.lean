/- An own layer over the machine's semantics: abstract memory and values, and what it means that a world bears them. -/
import Derived.Orders
import Derived.LoopN
import Derived.Items
namespace Go.Proofs.Ythheaehpnleiaaa.AX
open Go
set_option linter.unusedVariables false
set_option linter.unusedSimpArgs false

/-- a block of abstract memory: its cells, the type of its rows, whether it may be written -/
structure Blk where
  cells : List Value
  elem : TypeId
  rw : Bool

/-- where a block lies: the world's block, how far in, how many cells that has, the type of its rows -/
structure Inf where
  blk : Nat
  shift : Nat
  room : Nat
  elem : TypeId

abbrev Emb := Nat → Option Inf
abbrev Mm := Nat → Option Blk

/-- the capacity of which nothing is known -/
def unk : Nat := 18446744073709551616

inductive VR (P : Program) (ρ : Emb) : Value → Value → Prop
  | bool (b : Bool) : VR P ρ (.bool b) (.bool b)
  | int (k : IntKind) (n : Int) : VR P ρ (.int k n) (.int k n)
  | float (k : FloatKind) (b : Nat) : VR P ρ (.float k b) (.float k b)
  | complex (k : FloatKind) (a b : Nat) : VR P ρ (.complex k a b) (.complex k a b)
  | string (s : ByteArray) : VR P ρ (.string s) (.string s)
  | nilp : VR P ρ (.pointer none) (.pointer none)
  | ptr {i o : Nat} {f : Inf} (h : ρ i = some f) : VR P ρ (.pointer (some ⟨i, o, none⟩)) (.pointer (some ⟨f.blk, f.shift + o, none⟩))
  | nils : VR P ρ (.slice none 0 0) (.slice none 0 0)
  | slice {i o n c c' p : Nat} {sp : Option Nat} {f : Inf} (h : ρ i = some f) (hn : n ≤ c') (hc : c = c' ∨ c = unk) (hp : 0 < n ∨ (c ≠ unk ∧ 0 < c) → p = f.shift + o) (hr : p + c' * P.cellsOf f.elem ≤ f.room) (hs : 0 < c' → sp = none) :
      VR P ρ (.slice (some ⟨i, o, none⟩) n c) (.slice (some ⟨f.blk, p, sp⟩) n c')
  | nilm : VR P ρ (.map none) (.map none)
  | nilc : VR P ρ (.chan none) (.chan none)
  | nilf : VR P ρ .nilFunc .nilFunc
  | func (fn : Fn) {xs ys xs' ys' : Array Value} (hx : xs.size = xs'.size) (hy : ys.size = ys'.size) (h : ∀ (i : Nat) (v v' : Value), xs[i]? = some v → xs'[i]? = some v' → VR P ρ v v')
      (h' : ∀ (i : Nat) (v v' : Value), ys[i]? = some v → ys'[i]? = some v' → VR P ρ v v') : VR P ρ (.func fn xs ys) (.func fn xs' ys')
  | iface (t : TypeId) {v v' : Value} (h : VR P ρ v v') : VR P ρ (.iface t v) (.iface t v')
  | nili : VR P ρ .nilIface .nilIface
  | agg {xs xs' : Array Value} (hx : xs.size = xs'.size) (h : ∀ (i : Nat) (v v' : Value), xs[i]? = some v → xs'[i]? = some v' → VR P ρ v v') : VR P ρ (.agg xs) (.agg xs')
  | tuple {xs xs' : Array Value} (hx : xs.size = xs'.size) (h : ∀ (i : Nat) (v v' : Value), xs[i]? = some v → xs'[i]? = some v' → VR P ρ v v') : VR P ρ (.tuple xs) (.tuple xs')

def Sub (ρ ρ' : Emb) : Prop := ∀ i f, ρ i = some f → ρ' i = some f
theorem Sub.refl (ρ : Emb) : Sub ρ ρ := fun _ _ h => h
theorem Sub.trans {a b c : Emb} (h : Sub a b) (h' : Sub b c) : Sub a c := fun i f hf => h' i f (h i f hf)

theorem VR.mono {P : Program} {ρ ρ' : Emb} {v v' : Value} (h : VR P ρ v v') (hs : Sub ρ ρ') : VR P ρ' v v' := by
  induction h with
  | bool b => exact .bool b
  | int k n => exact .int k n
  | float k n => exact .float k n
  | complex k a b => exact .complex k a b
  | string s => exact .string s
  | nilp => exact .nilp
  | ptr h => exact .ptr (hs _ _ h)
  | nils => exact .nils
  | slice h hn hc hp hr hsp => exact .slice (hs _ _ h) hn hc hp hr hsp
  | nilm => exact .nilm
  | nilc => exact .nilc
  | nilf => exact .nilf
  | func fn hx hy _ _ ih ih' => exact .func fn hx hy ih ih'
  | iface t _ ih => exact .iface t ih
  | nili => exact .nili
  | agg hx _ ih => exact .agg hx ih
  | tuple hx _ ih => exact .tuple hx ih

/-- two rows of values, place by place -/
def VRs (P : Program) (ρ : Emb) (xs xs' : Array Value) : Prop := xs.size = xs'.size ∧ ∀ (i : Nat) (v v' : Value), xs[i]? = some v → xs'[i]? = some v' → VR P ρ v v'
theorem VRs.mono {P : Program} {ρ ρ' : Emb} {v v' : Array Value} (h : VRs P ρ v v') (hs : Sub ρ ρ') : VRs P ρ' v v' :=
  ⟨h.1, fun i a b ha hb => (h.2 i a b ha hb).mono hs⟩

theorem VR.undef (P : Program) (ρ : Emb) : VR P ρ undef undef := .tuple rfl (by simp)

/-- which of the world's blocks may be written -/
def Wr (ρ : Emb) (m : Mm) (B : Nat) : Prop := ∃ i b f, m i = some b ∧ b.rw = true ∧ ρ i = some f ∧ f.blk = B

structure One (P : Program) (ρ : Emb) (w : World) (f : Inf) (b : Blk) : Prop where
  elem : f.elem = b.elem
  room : f.shift + b.cells.length ≤ f.room
  row : ∃ cs el fz, w.heap[f.blk]? = some (.cells cs el fz) ∧ cs.size = f.room ∧ (b.rw = true → el = f.elem ∧ (fz = (0, 0) ∨ fz = (cs.size, cs.size + 1))) ∧
    ∀ o v, b.cells[o]? = some v → ∃ v', cs[f.shift + o]? = some v' ∧ VR P ρ v v'

/-- the world bears the memory -/
structure HR (P : Program) (ρ : Emb) (m : Mm) (w : World) : Prop where
  one : ∀ i b, m i = some b → ∃ f, ρ i = some f ∧ One P ρ w f b
  apart : ∀ i j bi bj fi fj, i ≠ j → m i = some bi → m j = some bj → bi.rw = true → ρ i = some fi → ρ j = some fj → fi.blk ≠ fj.blk

/-- numbers from n on are free -/
def Free (ρ : Emb) (n : Nat) : Prop := ∀ i, n ≤ i → ρ i = none

/-- the streams are as they were -/
def Io (w w' : World) : Prop := w'.os = w.os ∧ w'.tape = w.tape ∧ w'.output = w.output
theorem Io.refl (w : World) : Io w w := ⟨rfl, rfl, rfl⟩
theorem Io.trans {a b c : World} (h : Io a b) (h' : Io b c) : Io a c := ⟨h'.1.trans h.1, h'.2.1.trans h.2.1, h'.2.2.trans h.2.2⟩
theorem Io.freeze (w : World) (a : Addr) (n : Nat) : Io w (w.freeze a n) := by unfold World.freeze; split <;> exact ⟨rfl, rfl, rfl⟩
/-- what may have become of the world, of the numbers and of the memory -/
structure Ext (ρ : Emb) (m : Mm) (w : World) (ρ' : Emb) (m' : Mm) (w' : World) : Prop where
  sub : Sub ρ ρ'
  size : w.heap.size ≤ w'.heap.size
  heap : ∀ B, B < w.heap.size → ¬ Wr ρ m B → w'.heap[B]? = w.heap[B]?
  new : ∀ i f, ρ i = none → ρ' i = some f → w.heap.size ≤ f.blk ∨ Wr ρ m f.blk
  ids : ∀ i b', m' i = some b' → (∃ b, m i = some b ∧ (b'.rw = true → b.rw = true)) ∨ ρ i = none
  io : Io w w'

theorem Ext.refl (ρ : Emb) (m : Mm) (w : World) : Ext ρ m w ρ m w :=
  ⟨Sub.refl ρ, Nat.le_refl _, fun _ _ _ => rfl, fun i f h h' => (by rw [h] at h'; cases h'), fun i b' h => .inl ⟨b', h, id⟩, Io.refl w⟩

theorem Ext.wr {ρ ρ' : Emb} {m m' : Mm} {w w' : World} (h : Ext ρ m w ρ' m' w') {P : Program} (hr : HR P ρ m w) {B : Nat} (hb : Wr ρ' m' B) : w.heap.size ≤ B ∨ Wr ρ m B := by
  obtain ⟨i, b', f, hi, hrw, hf, rfl⟩ := hb
  rcases h.ids i b' hi with ⟨b, hb, hk⟩ | hn
  · obtain ⟨f₀, hf₀, _⟩ := hr.one i b hb
    have := h.sub i f₀ hf₀
    rw [hf] at this
    cases this
    exact .inr ⟨i, b, f, hb, hk hrw, hf₀, rfl⟩
  · exact h.new i f hn hf

theorem Ext.trans {P : Program} {ρ ρ₁ ρ₂ : Emb} {m m₁ m₂ : Mm} {w w₁ w₂ : World} (hr : HR P ρ m w) (h : Ext ρ m w ρ₁ m₁ w₁) (h' : Ext ρ₁ m₁ w₁ ρ₂ m₂ w₂) :
    Ext ρ m w ρ₂ m₂ w₂ where
  sub := h.sub.trans h'.sub
  size := Nat.le_trans h.size h'.size
  heap := fun B hB hw => by
    rw [h'.heap B (Nat.lt_of_lt_of_le hB h.size) fun hw' => (h.wr hr hw').elim (fun hl => by omega) hw, h.heap B hB hw]
  new := fun i f hi hf => by
    cases h1 : ρ₁ i with
    | some f₁ =>
      have := h'.sub i f₁ h1
      rw [hf] at this
      cases this
      exact h.new i f hi h1
    | none =>
      rcases h'.new i f h1 hf with hl | hw
      · exact .inl (Nat.le_trans h.size hl)
      · exact h.wr hr hw
  ids := fun i b' hi => by
    rcases h'.ids i b' hi with ⟨b, hb, hk⟩ | hn
    · rcases h.ids i b hb with ⟨b₀, hb₀, hk₀⟩ | hn
      · exact .inl ⟨b₀, hb₀, fun x => hk₀ (hk x)⟩
      · exact .inr hn
    · refine .inr ?_
      cases h0 : ρ i with
      | none => rfl
      | some f => rw [h.sub i f h0] at hn; cases hn
  io := h.io.trans h'.io

theorem One.mono {P : Program} {ρ ρ' : Emb} {w w' : World} {f : Inf} {b : Blk} (h : One P ρ w f b) (hs : Sub ρ ρ') (hw : w'.heap[f.blk]? = w.heap[f.blk]?) : One P ρ' w' f b where
  elem := h.elem
  room := h.room
  row := by
    obtain ⟨cs, el, fz, h1, h2, h3, h4⟩ := h.row
    exact ⟨cs, el, fz, hw.trans h1, h2, h3, fun o v hv => let ⟨v', a, b⟩ := h4 o v hv; ⟨v', a, b.mono hs⟩⟩

/-- a block that may be written is of its rows' type -/
theorem One.own {P : Program} {ρ : Emb} {w : World} {f : Inf} {b : Blk} (h : One P ρ w f b) (hrw : b.rw = true) : ∃ cs fz, w.heap[f.blk]? = some (.cells cs f.elem fz) ∧ cs.size = f.room ∧ (b.rw = true → fz = (0, 0) ∨ fz = (cs.size, cs.size + 1)) ∧
    ∀ o v, b.cells[o]? = some v → ∃ v', cs[f.shift + o]? = some v' ∧ VR P ρ v v' := by
  obtain ⟨cs, el, fz, h1, h2, h3, h4⟩ := h.row
  obtain ⟨rfl, h5⟩ := h3 hrw
  exact ⟨cs, fz, h1, h2, fun _ => h5, h4⟩
theorem One.lt {P : Program} {ρ : Emb} {w : World} {f : Inf} {b : Blk} (h : One P ρ w f b) : f.blk < w.heap.size := by
  obtain ⟨cs, el, fz, h1, _⟩ := h.row
  exact (Array.getElem?_eq_some_iff.1 h1).1

/-- a memory within another one -/
def Within (m n : Mm) : Prop := ∀ i b, m i = some b → n i = some b
/-- what became of a memory, beside what stayed apart from it -/
def join (m m' n : Mm) : Mm := fun i => match m i, n i with | none, some b => some b | _, _ => m' i

theorem HR.within {P : Program} {ρ : Emb} {m n : Mm} {w : World} (h : HR P ρ n w) (hs : Within m n) : HR P ρ m w :=
  ⟨fun i b hi => h.one i b (hs i b hi), fun i j bi bj fi fj hij hi hj => h.apart i j bi bj fi fj hij (hs i bi hi) (hs j bj hj)⟩

theorem join_some {m m' n : Mm} {i : Nat} {b : Blk} (h : join m m' n i = some b) : (m i = none ∧ n i = some b) ∨ (m' i = some b ∧ (m i ≠ none ∨ n i = none)) := by
  unfold join at h
  cases hm : m i with
  | none =>
    cases hn : n i with
    | none => simp [hm, hn] at h; exact .inr ⟨h, .inr rfl⟩
    | some c => simp [hm, hn] at h; exact .inl ⟨rfl, by rw [h]⟩
  | some c => simp [hm] at h; exact .inr ⟨h, .inl (by simp)⟩

/-- THE FRAME: what was done with a part of the memory, beside the rest -/
theorem frame {P : Program} {ρ ρ' : Emb} {m m' n : Mm} {w w' : World} (hn : HR P ρ n w) (hs : Within m n) (he : Ext ρ m w ρ' m' w') (hr : HR P ρ' m' w') :
    HR P ρ' (join m m' n) w' ∧ Ext ρ n w ρ' (join m m' n) w' := by
  have hm := hn.within hs
  have key : ∀ k bk fk, m k = none → n k = some bk → ρ k = some fk → ¬ Wr ρ m fk.blk := by
    rintro k bk fk hk hnk hfk ⟨i, b, f, hi, hrw, hf, he⟩
    exact hn.apart i k b bk f fk (by rintro rfl; rw [hk] at hi; cases hi) (hs i b hi) hnk hrw hf hfk he
  have newapart : ∀ j f' k bk fk, ρ' j = some f' → (∃ b', m' j = some b') → m k = none → n k = some bk → ρ k = some fk → fk.blk < w.heap.size → (m j ≠ none ∨ n j = none) → j ≠ k →
      (∀ b', m' j = some b' → bk.rw = true ∨ b'.rw = true) → f'.blk ≠ fk.blk := by
    rintro j f' k bk fk hf' ⟨b', hb'⟩ hk hnk hfk hlt hjn hjk hrw heq
    rcases he.ids j b' hb' with ⟨b, hb, hkp⟩ | hnone
    · obtain ⟨f₀, hf₀, _⟩ := hm.one j b hb
      have := he.sub j f₀ hf₀
      rw [hf'] at this
      cases this
      rcases hrw b' hb' with h | h
      · exact hn.apart k j bk b fk f' (Ne.symm hjk) hnk (hs j b hb) h hfk hf₀ heq.symm
      · exact hn.apart j k b bk f' fk hjk (hs j b hb) hnk (hkp h) hf₀ hfk heq
    · rcases he.new j f' hnone hf' with h | h
      · omega
      · rw [heq] at h; exact key k bk fk hk hnk hfk h
  refine ⟨⟨?_, ?_⟩, ?_⟩
  · intro i b hi
    rcases join_some hi with ⟨hk, hnk⟩ | ⟨hb, _⟩
    · obtain ⟨f, hf, ho⟩ := hn.one i b hnk
      exact ⟨f, he.sub i f hf, ho.mono he.sub (he.heap f.blk ho.lt (key i b f hk hnk hf))⟩
    · exact hr.one i b hb
  · intro i j bi bj fi fj hij hi hj hrw hfi hfj
    rcases join_some hi with ⟨hki, hni⟩ | ⟨hbi, hci⟩
    · obtain ⟨f, hf, ho⟩ := hn.one i bi hni
      have h1 := he.sub i f hf
      rw [hfi] at h1; cases h1
      rcases join_some hj with ⟨hkj, hnj⟩ | ⟨hbj, hcj⟩
      · obtain ⟨f2, hf2, ho2⟩ := hn.one j bj hnj
        have h2 := he.sub j f2 hf2
        rw [hfj] at h2; cases h2
        exact hn.apart i j bi bj fi fj hij hni hnj hrw hf hf2
      · exact (newapart j fj i bi fi hfj ⟨bj, hbj⟩ hki hni hf ho.lt hcj (Ne.symm hij) (fun _ _ => .inl hrw)).symm
    · rcases join_some hj with ⟨hkj, hnj⟩ | ⟨hbj, hcj⟩
      · obtain ⟨f2, hf2, ho2⟩ := hn.one j bj hnj
        have h2 := he.sub j f2 hf2
        rw [hfj] at h2; cases h2
        refine newapart i fi j bj fj hfi ⟨bi, hbi⟩ hkj hnj hf2 ho2.lt hci hij (fun b' hb' => .inr ?_)
        rw [hbi] at hb'; cases hb'; exact hrw
      · exact hr.apart i j bi bj fi fj hij hbi hbj hrw hfi hfj
  · refine ⟨he.sub, he.size, fun B hB hw => he.heap B hB fun ⟨i, b, f, hi, h⟩ => hw ⟨i, b, f, hs i b hi, h⟩, fun i f hi hf => ?_, fun i b' hi => ?_, he.io⟩
    · exact (he.new i f hi hf).imp id fun ⟨j, b, g, hj, h⟩ => ⟨j, b, g, hs j b hj, h⟩
    · rcases join_some hi with ⟨hk, hnk⟩ | ⟨hb, hc⟩
      · exact .inl ⟨b', hnk, id⟩
      · exact (he.ids i b' hb).imp (fun ⟨b, hb, hk⟩ => ⟨b, hs i b hb, hk⟩) id
end Go.Proofs.Ythheaehpnleiaaa.AX
