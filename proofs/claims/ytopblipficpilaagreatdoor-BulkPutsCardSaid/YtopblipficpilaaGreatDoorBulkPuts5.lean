/- The layer: results told anew. -/
import Derived.Test.YtopblipficpilaaGreatDoorBulkPuts4
import Derived.IntWalk
namespace Go.Proofs.YtopblipficpilaaGreatDoor.AY
open Go
set_option linter.unusedVariables false
set_option linter.unusedSimpArgs false

/-- the same value, its numbers told anew: 'g' says which number of the run a number stands for -/
inductive RN (g : Nat → Nat) (hi : Nat) : Value → Value → Prop
  | bool (b : Bool) : RN g hi (.bool b) (.bool b)
  | int (k : IntKind) (n : Int) : RN g hi (.int k n) (.int k n)
  | float (k : FloatKind) (b : Nat) : RN g hi (.float k b) (.float k b)
  | complex (k : FloatKind) (a b : Nat) : RN g hi (.complex k a b) (.complex k a b)
  | string (s : ByteArray) : RN g hi (.string s) (.string s)
  | nilp : RN g hi (.pointer none) (.pointer none)
  | ptr {i j o : Nat} (h : i < hi) (hj : j = g i) : RN g hi (.pointer (some ⟨i, o, none⟩)) (.pointer (some ⟨j, o, none⟩))
  | nils : RN g hi (.slice none 0 0) (.slice none 0 0)
  | slice {i j o n c c' : Nat} (h : i < hi) (hj : j = g i) (hc : c = c' ∨ c = unk) : RN g hi (.slice (some ⟨i, o, none⟩) n c) (.slice (some ⟨j, o, none⟩) n c')
  | nilm : RN g hi (.map none) (.map none)
  | mapr {i j : Nat} (h : i < hi) (hj : j = g i) : RN g hi (.map (some i)) (.map (some j))
  | nilc : RN g hi (.chan none) (.chan none)
  | nilf : RN g hi .nilFunc .nilFunc
  | func (fn : Fn) {xs ys xs' ys' : Array Value} (hx : xs.size = xs'.size) (hy : ys.size = ys'.size) (h : ∀ (i : Nat) (v v' : Value), xs[i]? = some v → xs'[i]? = some v' → RN g hi v v')
      (h' : ∀ (i : Nat) (v v' : Value), ys[i]? = some v → ys'[i]? = some v' → RN g hi v v') : RN g hi (.func fn xs ys) (.func fn xs' ys')
  | iface (t : TypeId) {v v' : Value} (h : RN g hi v v') : RN g hi (.iface t v) (.iface t v')
  | nili : RN g hi .nilIface .nilIface
  | agg {xs xs' : Array Value} (hx : xs.size = xs'.size) (h : ∀ (i : Nat) (v v' : Value), xs[i]? = some v → xs'[i]? = some v' → RN g hi v v') : RN g hi (.agg xs) (.agg xs')
  | tuple {xs xs' : Array Value} (hx : xs.size = xs'.size) (h : ∀ (i : Nat) (v v' : Value), xs[i]? = some v → xs'[i]? = some v' → RN g hi v v') : RN g hi (.tuple xs) (.tuple xs')

theorem RN.vr {P : Program} {ρ₀ ρ : Emb} {g : Nat → Nat} {hi : Nat} (hg : ∀ i, i < hi → ∀ f, ρ₀ (g i) = some f → ρ i = some f) {v v₀ : Value} (h : RN g hi v v₀) : ∀ {v' : Value}, VR P ρ₀ v₀ v' → VR P ρ v v' := by
  have mid : ∀ {xs xs₀ xs' : Array Value}, xs.size = xs₀.size → xs₀.size = xs'.size → (∀ (i : Nat) (a b : Value), xs[i]? = some a → xs₀[i]? = some b → ∀ {v' : Value}, VR P ρ₀ b v' → VR P ρ a v') →
      (∀ (i : Nat) (a b : Value), xs₀[i]? = some a → xs'[i]? = some b → VR P ρ₀ a b) → ∀ (i : Nat) (a b : Value), xs[i]? = some a → xs'[i]? = some b → VR P ρ a b := by
    intro xs xs₀ xs' h1 h2 h3 h4 i a b ha hb
    have hlt : i < xs₀.size := by have := (Array.getElem?_eq_some_iff.1 ha).1; omega
    have hm : xs₀[i]? = some xs₀[i] := by simp [hlt]
    exact h3 i a _ ha hm (h4 i _ b hm hb)
  induction h with
  | bool b => intro v' h; cases h; exact .bool b
  | int k n => intro v' h; cases h; exact .int k n
  | float k n => intro v' h; cases h; exact .float k n
  | complex k a b => intro v' h; cases h; exact .complex k a b
  | string s => intro v' h; cases h; exact .string s
  | nilp => intro v' h; cases h; exact .nilp
  | ptr h hj => intro v' hv; subst hj; cases hv with | ptr hf => exact .ptr (hg _ h _ hf)
  | nils => intro v' h; cases h; exact .nils
  | slice h hj hc =>
    intro v' hv
    subst hj
    cases hv with
    | slice hf hn hc' hp hr hsp =>
      refine .slice (hg _ h _ hf) hn ?_ ?_ hr hsp
      · rcases hc with rfl | hc
        · exact hc'
        · exact .inr hc
      · intro hcase
        refine hp (hcase.imp (fun h => h) fun ⟨h1, h2⟩ => ?_)
        rcases hc with rfl | hc
        · exact ⟨h1, h2⟩
        · exact absurd hc h1
  | nilm => intro v' h; cases h; exact .nilm
  | mapr h hj => intro v' hv; subst hj; cases hv with | mapr hf => exact .mapr (hg _ h _ hf)
  | nilc => intro v' h; cases h; exact .nilc
  | nilf => intro v' h; cases h; exact .nilf
  | func fn hx hy h h' ih ih' => intro v' hv; cases hv with | func _ a b c d => exact .func fn (hx.trans a) (hy.trans b) (mid hx a ih c) (mid hy b ih' d)
  | iface t h ih => intro v' hv; cases hv with | iface _ h => exact .iface t (ih h)
  | nili => intro v' h; cases h; exact .nili
  | agg hx h ih => intro v' hv; cases hv with | agg a b => exact .agg (hx.trans a) (mid hx a ih b)
  | tuple hx h ih => intro v' hv; cases hv with | tuple a b => exact .tuple (hx.trans a) (mid hx a ih b)

theorem RN.plain {g : Nat → Nat} {hi : Nat} {v : Value} (h : plain v = true) : RN g hi v v := by
  cases v <;> simp [AY.plain] at h <;> try constructor
  case pointer a => cases a <;> simp at h; exact .nilp
  case slice a n c =>
    cases a with
    | some a => simp at h
    | none => cases n <;> cases c <;> simp at h; exact .nils
  case map r => cases r <;> simp at h; exact .nilm
  case chan r => cases r <;> simp at h; exact .nilc

/-- which number of the run a number stands for: the elder ones stay -/
def rn (n0 : Nat) (π : Nat → Nat) (i : Nat) : Nat := if i < n0 then i else π i
inductive RNL (g : Nat → Nat) (hi : Nat) : List Value → List Value → Prop
  | nil : RNL g hi [] []
  | cons {v v' : Value} {l l' : List Value} (h : RN g hi v v') (h' : RNL g hi l l') : RNL g hi (v :: l) (v' :: l')
theorem RNL.at {g : Nat → Nat} {hi : Nat} {l l' : List Value} (h : RNL g hi l l') : ∀ (i : Nat) (v : Value), l[i]? = some v → ∃ v', l'[i]? = some v' ∧ RN g hi v v' := by
  induction h with
  | nil => intro i v hv; simp at hv
  | cons h _ ih =>
    intro i v hv
    cases i with
    | zero => simp at hv; subst hv; exact ⟨_, rfl, h⟩
    | succ i => simp at hv; obtain ⟨v', a, b⟩ := ih i v hv; exact ⟨v', by simpa using a, b⟩
theorem RNL.length {g : Nat → Nat} {hi : Nat} {l l' : List Value} (h : RNL g hi l l') : l.length = l'.length := by induction h <;> simp_all
theorem RNL.plain {g : Nat → Nat} {hi : Nat} {l : List Value} (h : l.all AY.plain = true) : RNL g hi l l := by
  induction l with
  | nil => exact .nil
  | cons v l ih => simp only [List.all_cons, Bool.and_eq_true] at h; exact .cons (RN.plain h.1) (ih h.2)

/-- a value that names elder blocks alone -/
def Old (n : Nat) (v : Value) : Prop := ∀ (g : Nat → Nat) (hi : Nat), n ≤ hi → (∀ i, i < n → g i = i) → RN g hi v v
theorem VR.old {P : Program} {ρ : Emb} {n : Nat} (hf : Free ρ n) {v v' : Value} (h : VR P ρ v v') : Old n v := by
  have hlt : ∀ i f, ρ i = some f → i < n := fun i f h => by
    rcases Nat.lt_or_ge i n with h' | h'
    · exact h'
    · rw [hf i h'] at h; cases h
  have arr : ∀ {xs xs' : Array Value}, xs.size = xs'.size → (∀ (i : Nat) (a b : Value), xs[i]? = some a → xs'[i]? = some b → Old n a) → ∀ (g : Nat → Nat) (hi : Nat), n ≤ hi → (∀ i, i < n → g i = i) → ∀ (i : Nat) (a b : Value), xs[i]? = some a → xs[i]? = some b → RN g hi a b := by
    intro xs xs' hs hh g hi h1 h2 i a b ha hb
    rw [ha] at hb; cases hb
    have hl : i < xs'.size := by have := (Array.getElem?_eq_some_iff.1 ha).1; omega
    exact hh i a xs'[i] ha (by simp [hl]) g hi h1 h2
  induction h with
  | bool b => exact fun g hi _ _ => .bool b
  | int k n => exact fun g hi _ _ => .int k n
  | float k n => exact fun g hi _ _ => .float k n
  | complex k a b => exact fun g hi _ _ => .complex k a b
  | string s => exact fun g hi _ _ => .string s
  | nilp => exact fun g hi _ _ => .nilp
  | ptr h => exact fun g hi h1 h2 => .ptr (Nat.lt_of_lt_of_le (hlt _ _ h) h1) (h2 _ (hlt _ _ h)).symm
  | nils => exact fun g hi _ _ => .nils
  | slice h hn hc hp hr hsp => exact fun g hi h1 h2 => .slice (Nat.lt_of_lt_of_le (hlt _ _ h) h1) (h2 _ (hlt _ _ h)).symm (.inl rfl)
  | nilm => exact fun g hi _ _ => .nilm
  | mapr h => exact fun g hi h1 h2 => .mapr (Nat.lt_of_lt_of_le (hlt _ _ h) h1) (h2 _ (hlt _ _ h)).symm
  | nilc => exact fun g hi _ _ => .nilc
  | nilf => exact fun g hi _ _ => .nilf
  | func fn hx hy _ _ ih ih' => exact fun g hi h1 h2 => .func fn rfl rfl (arr hx ih g hi h1 h2) (arr hy ih' g hi h1 h2)
  | iface t _ ih => exact fun g hi h1 h2 => .iface t (ih g hi h1 h2)
  | nili => exact fun g hi _ _ => .nili
  | agg hx _ ih => exact fun g hi h1 h2 => .agg rfl (arr hx ih g hi h1 h2)
  | tuple hx _ ih => exact fun g hi h1 h2 => .tuple rfl (arr hx ih g hi h1 h2)

/-- what a run came to, told anew -/
structure Settles (M : Mem) (r0 : Value) (M0 : Mem) (r : Value) (M' : Mem) (π : Nat → Nat) : Prop where
  next : M.next ≤ M'.next
  ge : ∀ i, M.next ≤ i → i < M'.next → M.next ≤ π i
  inj : ∀ i j, M.next ≤ i → i < M'.next → M.next ≤ j → j < M'.next → π i = π j → i = j
  val : RN (rn M.next π) M'.next r r0
  mem : ∀ i b, M'.get i = some b → (M.get i = some b ∧ M0.get i = some b) ∨
    (i < M'.next ∧ ∃ b0, M0.get (rn M.next π i) = some b0 ∧ isObj b0.elem = false ∧ b.elem = b0.elem ∧ (b.rw = true → b0.rw = true) ∧ RNL (rn M.next π) M'.next b.cells b0.cells)

theorem EntR.old {P : Program} {ρ : Emb} {n : Nat} (hf : Free ρ n) {cs : List Value} {es : List MapEntry} (h : EntR P ρ cs es) : ∀ v, v ∈ cs → Old n v := by
  induction h with
  | nil => intro v hv; cases hv
  | cons hk hv _ ih =>
    intro v hm
    rcases List.mem_cons.1 hm with rfl | hm
    · intro g hi h1 h2
      refine .tuple rfl fun i a b ha hb => ?_
      rw [ha] at hb; cases hb
      match i with
      | 0 => simp at ha; subst ha; exact hk.old hf g hi h1 h2
      | 1 => simp at ha; subst ha; exact hv.old hf g hi h1 h2
      | 2 => simp at ha; subst ha; exact .int _ _
      | i + 3 => simp at ha
    · exact ih v hm
theorem ObjR.old {P : Program} {ρ : Emb} {n : Nat} (hf : Free ρ n) {cs : List Value} {e : TypeId} {o : Obj} (h : ObjR P ρ cs e o) : ∀ v, v ∈ cs → Old n v := by
  cases h with
  | map h =>
    intro v hv
    rcases List.mem_cons.1 hv with rfl | hv
    · exact fun g hi _ _ => .int _ _
    · exact h.old hf v hv
  | iter h =>
    intro v hv
    rcases List.mem_cons.1 hv with rfl | hv
    · exact (VR.mapr (P := P) h).old hf
    · simp only [List.mem_cons, seenC, List.mem_map] at hv
      rcases hv with rfl | rfl | ⟨x, _, rfl⟩ <;> exact fun g hi _ _ => .int _ _
  | glob h => intro v hv; cases hv
/-- what names elder blocks alone is so wherever these are the same -/
theorem EntR.moved {P : Program} {ρ ρ' : Emb} {cs : List Value} {es : List MapEntry} (h : EntR P ρ cs es) (hv : ∀ v v', v ∈ cs → VR P ρ v v' → VR P ρ' v v') : EntR P ρ' cs es := by
  induction h with
  | nil => exact .nil
  | cons hk hvv _ ih =>
    rename_i k v e cs es _
    have ht : VR P ρ (.tuple ⟨[k, v, .int .i64 (e.born : Nat)]⟩) (.tuple ⟨[e.key, e.val, .int .i64 (e.born : Nat)]⟩) := .tuple rfl fun i a b ha hb => by
      match i with
      | 0 => simp at ha hb; subst ha; subst hb; exact hk
      | 1 => simp at ha hb; subst ha; subst hb; exact hvv
      | 2 => simp at ha hb; subst ha; subst hb; exact .int _ _
      | i + 3 => simp at ha
    have := hv _ _ (by simp) ht
    cases this with
    | tuple _ h' => exact .cons (h' 0 _ _ rfl rfl) (h' 1 _ _ rfl rfl) (ih fun u u' hu => hv u u' (by simp [hu]))
theorem VR.map_inv {P : Program} {ρ : Emb} {i : Nat} {v' : Value} (h : VR P ρ (.map (some i)) v') : ∃ f, ρ i = some f ∧ v' = .map (some f.blk) := by cases h; exact ⟨_, by assumption, rfl⟩
theorem ObjR.moved {P : Program} {ρ ρ' : Emb} {cs : List Value} {e : TypeId} {o : Obj} (h : ObjR P ρ cs e o) (hv : ∀ v v', v ∈ cs → VR P ρ v v' → VR P ρ' v v') : ObjR P ρ' cs e o := by
  cases h with
  | map h => exact .map (h.moved fun v v' hm => hv v v' (by simp [hm]))
  | iter h =>
    obtain ⟨f'', h1, h2⟩ := (hv _ _ (by simp) (VR.mapr (P := P) h)).map_inv
    simp only [Value.map.injEq, Option.some.injEq] at h2
    rw [h2]
    exact .iter h1
  | glob h => exact .glob h
/-- what is known of a memory, and of a call's arguments, ahead of the call -/
structure Wf (M : Mem) (args : List Value) : Prop where
  lt : ∀ i b, M.get i = some b → i < M.next
  old : ∀ i b v, M.get i = some b → v ∈ b.cells → Old M.next v
  arg : ∀ v, v ∈ args → Old M.next v
theorem wf_of {P : Program} {ρ : Emb} {M : Mem} {w : World} {args : List Value} {args' : Array Value} (ha : VRs P ρ args.toArray args') (hr : HR P ρ M.get w) (hf : Free ρ M.next) : Wf M args where
  lt := fun i b hi => by
    obtain ⟨f, h1, _⟩ := hr.one i b hi
    rcases Nat.lt_or_ge i M.next with h | h
    · exact h
    · rw [hf i h] at h1; cases h1
  old := fun i b v hi hv => by
    obtain ⟨f, h1, ho⟩ := hr.one i b hi
    rcases ho.row with ⟨_, _, cs, el, fz, _, _, _, h4⟩ | ⟨_, _, o, _, h4⟩
    · obtain ⟨o, hlt, he⟩ := List.getElem_of_mem hv
      obtain ⟨v', _, h5⟩ := h4 o v (by rw [List.getElem?_eq_getElem hlt, he])
      exact h5.old hf
    · exact h4.old hf v hv
  arg := fun v hv => by
    obtain ⟨o, hlt, he⟩ := List.getElem_of_mem hv
    obtain ⟨v', _, h5⟩ := ha.get (i := o) (v := v) (by simp [hlt, he])
    exact h5.old hf

theorem rnl_old {g : Nat → Nat} {hi n : Nat} (h1 : n ≤ hi) (h2 : ∀ i, i < n → g i = i) {l : List Value} (h : ∀ v, v ∈ l → Old n v) : RNL g hi l l := by
  induction l with
  | nil => exact .nil
  | cons v l ih => exact .cons (h v (by simp) g hi h1 h2) (ih fun u hu => h u (by simp [hu]))
theorem rn_old {n : Nat} {π : Nat → Nat} (i : Nat) (h : i < n) : rn n π i = i := by simp [rn, h]

theorem settle {P : Program} {ρ ρ₀ : Emb} {M M₀ M' : Mem} {w w' : World} {r0 r r' : Value} {π : Nat → Nat} (hr : HR P ρ M.get w) (hf : Free ρ M.next) (hs : Settles M r0 M₀ r M' π)
    (hv : VR P ρ₀ r0 r') (hr0 : HR P ρ₀ M₀.get w') (hg : Grow ρ M w ρ₀ M₀ w') : ∃ ρ', VR P ρ' r r' ∧ HR P ρ' M'.get w' ∧ Free ρ' M'.next ∧ Grow ρ M w ρ' M' w' := by
  have hwf : Wf M [] := wf_of (args' := #[]) ⟨rfl, fun i v v' h => by simp at h⟩ hr hf
  have hmem : ∀ i b, M'.get i = some b → i < M'.next ∧ ∃ b0, M₀.get (rn M.next π i) = some b0 ∧ (isObj b0.elem = true → b = b0) ∧ b.elem = b0.elem ∧ (b.rw = true → b0.rw = true) ∧ RNL (rn M.next π) M'.next b.cells b0.cells := fun i b hi => by
    rcases hs.mem i b hi with ⟨h1, h2⟩ | ⟨h1, b0, h2, h3, h4⟩
    · have hlt := hwf.lt i b h1
      exact ⟨Nat.lt_of_lt_of_le hlt hs.next, b, by rw [rn_old i hlt]; exact h2, fun _ => rfl, rfl, fun h => h, rnl_old hs.next rn_old fun v hv => hwf.old i b v h1 hv⟩
    · exact ⟨h1, b0, h2, (fun h => by rw [h3] at h; cases h), h4⟩
  let ρ' : Emb := fun i => if i < M'.next then ρ₀ (rn M.next π i) else none
  have hρ : ∀ i, i < M'.next → ρ' i = ρ₀ (rn M.next π i) := fun i hi => by simp [ρ', hi]
  have hold : ∀ i, i < M.next → ρ' i = ρ₀ i := fun i hi => by
    have : i < M'.next := Nat.lt_of_lt_of_le hi hs.next
    simp [ρ', this, rn, hi]
  have hlt : ∀ i f, ρ i = some f → i < M.next := fun i f h => by
    rcases Nat.lt_or_ge i M.next with h' | h'
    · exact h'
    · rw [hf i h'] at h; cases h
  have hrn : ∀ i j, i < M'.next → j < M'.next → rn M.next π i = rn M.next π j → i = j := by
    intro i j hi hj he
    unfold rn at he
    split at he <;> split at he
    · exact he
    · have := hs.ge j (by omega) hj; omega
    · have := hs.ge i (by omega) hi; omega
    · exact hs.inj i j (by omega) hi (by omega) hj he
  have hval : ∀ {v v₀ v' : Value}, RN (rn M.next π) M'.next v v₀ → VR P ρ₀ v₀ v' → VR P ρ' v v' := fun h h' => h.vr (fun i hi f hf => by rw [hρ i hi]; exact hf) h'
  refine ⟨ρ', hval hs.val hv, ⟨fun i b hi => ?_, fun i j bi bj fi fj hij hi hj hrw hfi hfj => ?_⟩, fun i hi => by simp [ρ']; omega, ⟨⟨fun i f h => ?_, hg.ext.size, hg.ext.heap, fun i f h h' => ?_, fun i b' hi => ?_, hg.ext.io⟩, fun i hi hn => ?_, hs.next⟩⟩
  · obtain ⟨h1, b0, h2, hob, h3, h4, h5⟩ := hmem i b hi
    obtain ⟨f, hf', ho⟩ := hr0.one _ b0 h2
    refine ⟨f, by rw [hρ i h1]; exact hf', ho.elem.trans h3.symm, ?_, fun g hg => ho.glob g (h3.symm.trans hg)⟩
    rcases ho.row with ⟨g0, groom, cs, el, fz, g1, g2, g3, g4⟩ | ⟨g0, gz, o, g1, g2⟩
    · exact .inl ⟨by rw [h3]; exact g0, by rw [h5.length]; exact groom, cs, el, fz, g1, g2, fun h => g3 (h4 h), fun o v hv => by
        obtain ⟨v₀, e1, e2⟩ := h5.at o v hv
        obtain ⟨v', e3, e4⟩ := g4 o v₀ e1
        exact ⟨v', e3, hval e2 e4⟩⟩
    · have hbb := hob g0
      subst hbb
      refine .inr ⟨g0, gz, o, g1, g2.moved fun v v' hm hvv => ?_⟩
      obtain ⟨q, hlt', he⟩ := List.getElem_of_mem hm
      have hat : b.cells[q]? = some v := by rw [List.getElem?_eq_getElem hlt', he]
      obtain ⟨v₀, e1, e2⟩ := h5.at q v hat
      rw [hat] at e1; cases e1
      exact hval e2 hvv
  · obtain ⟨h1, b0, h2, _, _, h4, _⟩ := hmem i bi hi
    obtain ⟨h1', b0', h2', _, _, _, _⟩ := hmem j bj hj
    rw [hρ i h1] at hfi
    rw [hρ j h1'] at hfj
    exact hr0.apart _ _ b0 b0' fi fj (fun h => hij (hrn i j h1 h1' h)) h2 h2' (h4 hrw) hfi hfj
  · rw [hold i (hlt i f h)]; exact hg.ext.sub i f h
  · have hi : i < M'.next := by
      rcases Nat.lt_or_ge i M'.next with h2 | h2
      · exact h2
      · have : ρ' i = none := by simp [ρ']; omega
        rw [this] at h'; cases h'
    rw [hρ i hi] at h'
    unfold rn at h'
    split at h'
    · exact hg.ext.new i f h h'
    · exact hg.ext.new _ f (hf _ (hs.ge i (by omega) hi)) h'
  · obtain ⟨h1, b0, h2, _, _, h4, _⟩ := hmem i b' hi
    by_cases hi' : i < M.next
    · rw [show rn M.next π i = i by simp [rn, hi']] at h2
      exact (hg.ext.ids i b0 h2).imp (fun ⟨b, hb, hk⟩ => ⟨b, hb, fun h => hk (h4 h)⟩) fun h => h
    · exact .inr (hf i (by omega))
  · rw [hold i hi]; exact hg.keep i hi hn


/-- a call, by the walk of its body: what comes of it may be told anew -/
theorem ACall.bodyK {P : Program} {f : FuncId} {fn : Func} {c : Code} {k : Nat} {rs : List ResultVar} {args : List Value} {M M' : Mem} {r : Value} (hf : P.funcs[f]? = some fn) (hb : fn.body = some c) (hkk : fn.ntmps = k) (hrs : fn.results.toList = rs) (hk : args.length ≤ k)
    (h : Wf M args → AWP P none k c ⟨argEnv 0 args, M, []⟩ fun e s' => (e = .normal ∨ e = .ret) ∧ s'.dfr = [] ∧ ∃ r0, retV P rs s' = some r0 ∧ ((∃ π, Settles M r0 s'.mem r M' π) ∨ (r = r0 ∧ M' = s'.mem))) : ACall P f args.toArray M r M' := by
  subst hkk hrs
  intro ρ w args' ha hr hfr
  obtain ⟨e, s', hrun, he, hd, r0, hret, hset⟩ := h (wf_of ha hr hfr)
  have hsz : args'.size = args.length := by have := ha.1; simp at this; omega
  have hcur : Cur P fn.ntmps w.heap.size ρ ⟨argEnv 0 args, M, []⟩ { tmps := args' ++ Array.replicate (fn.ntmps - args'.size) undef, defers := [] } w := by
    refine ⟨fun t v ht => ?_, hr, hfr, trivial, by simp; omega⟩
    obtain ⟨_, h2⟩ := argEnv_get ht
    simp at h2
    obtain ⟨v', h3, h4⟩ := ha.get (i := t) (by simpa using h2)
    have hlt := (Array.getElem?_eq_some_iff.1 h3).1
    exact ⟨v', by show (args' ++ Array.replicate (fn.ntmps - args'.size) undef)[t]? = some v'; rw [Array.getElem?_append_left hlt]; exact h3, h4⟩
  have hcl := callsIn_of_wp_marks (P := P) (f := f) (args := args') (w := w) (F := Fw none) (n := 0) (R := fun e w' => ∃ r' ρ', e = .returned r' ∧ VR P ρ' r r' ∧ HR P ρ' M'.get w' ∧ Free ρ' M'.next ∧ Grow ρ M w ρ' M' w') hf hb trivial (wpIn_mono (hrun w.heap.size ρ _ w hcur (Nat.le_refl _)) ?_)
  · exact (callsIn_wide (n := 0)).1 hcl
  · rintro x' a' w' ⟨rfl, ρ₀, hc', hg⟩
    have hlv : LeavesInM (Fw none) 0 P fn a'.tmps (fun e w' => ∃ r' ρ', e = .returned r' ∧ VR P ρ' r r' ∧ HR P ρ' M'.get w' ∧ Free ρ' M'.next ∧ Grow ρ M w ρ' M' w') a'.defers .returning w' :=
      leaves_none hc' hd hret fun v' hv' => by
        rcases hset with ⟨π, hset⟩ | ⟨rfl, rfl⟩
        · obtain ⟨ρ', g1, g2, g3, g4⟩ := settle hr hfr hset hv' hc'.hr hg
          exact ⟨v', ρ', rfl, g1, g2, g3, g4⟩
        · exact ⟨v', ρ₀, rfl, hv', hc'.hr, hc'.free, hg⟩
    rcases he with rfl | rfl
    · exact hlv
    · exact hlv
end Go.Proofs.YtopblipficpilaaGreatDoor.AY

/- The layer, twenty-third part: the walk's own rules and words. -/
namespace Go.Proofs.YtopblipficpilaaGreatDoor.AY
open Go
set_option linter.unusedVariables false
set_option linter.unusedSimpArgs false

theorem Mem.bump_zero (M : Mem) : M.bump 0 = M := rfl

/-! ### words -/
/-- one cell of a block -/
def ldS (m : Mm) (b o : Nat) : Option Value := match rowsOf m b with
  | some blk => blk.cells[o]?
  | none => none
/-- some cells of a block -/
def ldA (m : Mm) (b o n : Nat) : Option Value := match rowsOf m b with
  | some blk => if o + n ≤ blk.cells.length then some (.agg ((blk.cells.drop o).take n).toArray) else none
  | none => none
theorem loadV_scalar {P : Program} {t : TypeId} {d : TypeDesc} {i : TypeInfo} (hd : P.underlying t = some d) (hi : P.info? t = some i) (ha : aggT d = false) (m : Mm) (b o : Nat) : loadV P m t (.pointer (some ⟨b, o, none⟩)) = ldS m b o := by
  unfold loadV ldS
  simp only [hd, hi]
  cases rowsOf m b with
  | none => rfl
  | some blk => simp only [ha, cond_false]
theorem loadV_agg {P : Program} {t : TypeId} {d : TypeDesc} {i : TypeInfo} (hd : P.underlying t = some d) (hi : P.info? t = some i) (ha : aggT d = true) (m : Mm) (b o : Nat) : loadV P m t (.pointer (some ⟨b, o, none⟩)) = ldA m b o i.size := by
  unfold loadV ldA
  simp only [hd, hi]
  cases rowsOf m b with
  | none => rfl
  | some blk => simp only [ha, cond_true]
theorem ldS_at {m : Mm} {b : Nat} {blk : Blk} (h : rowsOf m b = some blk) (o : Nat) : ldS m b o = blk.cells[o]? := by simp only [ldS, h]
theorem ldA_at {m : Mm} {b : Nat} {blk : Blk} (h : rowsOf m b = some blk) (o n : Nat) : ldA m b o n = if o + n ≤ blk.cells.length then some (.agg ((blk.cells.drop o).take n).toArray) else none := by simp only [ldA, h]
/-- cells written -/
def stV (M : Mem) (b o n : Nat) (v : Value) : Option Mem := match rowsOf M.get b with
  | some blk => if blk.rw = true ∧ v.cells.size = n ∧ oneCells v.cells.toList = true ∧ o + n ≤ blk.cells.length then some (M.put b { blk with cells := splice blk.cells o v.cells.toList }) else none
  | none => none
theorem storeE_eq {P : Program} {t : TypeId} {i : TypeInfo} (hi : P.info? t = some i) (M : Mem) (b o : Nat) (v : Value) : storeE P M t (.pointer (some ⟨b, o, none⟩)) v = stV M b o i.size v := by
  unfold storeE stV
  simp only [hi]
  cases rowsOf M.get b <;> rfl
theorem stV_at {M : Mem} {b : Nat} {blk : Blk} (h : rowsOf M.get b = some blk) (o n : Nat) (v : Value) : stV M b o n v = if blk.rw = true ∧ v.cells.size = n ∧ oneCells v.cells.toList = true ∧ o + n ≤ blk.cells.length then some (M.put b { blk with cells := splice blk.cells o v.cells.toList }) else none := by simp only [stV, h]

theorem binV_int {P : Program} (op : BinOp) (t : TypeId) (k : IntKind) (a b : Int) : binV P op t (.int k a) (.int k b) = intBin op k a b := by simp [binV]
theorem binV_str {P : Program} (op : BinOp) (t : TypeId) (a b : ByteArray) : binV P op t (.string a) (.string b) = strBin op a b := rfl
theorem convV_int {P : Program} {src dst : TypeId} {d : TypeDesc} {k : IntKind} (h : P.underlying src = some d) (h' : P.underlying dst = some (.int k)) (k' : IntKind) (n : Int) : convV P src dst (.int k' n) = some (.int k (k.wrap n)) := by simp only [convV, h, h']
/-- an element's address -/
theorem indexAddrV_slice {P : Program} {t e : TypeId} {i : TypeInfo} (h : P.underlying t = some (.slice e)) (hi : P.info? e = some i) (b o n c : Nat) (k : IntKind) (x : Int) :
    indexAddrV P t (.slice (some ⟨b, o, none⟩) n c) (.int k x) = if 0 ≤ x ∧ x < n then some (.pointer (some ⟨b, o + x.toNat * i.size, none⟩)) else none := by simp only [indexAddrV, h, hi]
theorem lenV_slice {P : Program} {t e : TypeId} (h : P.underlying t = some (.slice e)) (a : Option Addr) (n c : Nat) : lenV P t (.slice a n c) = some (.int .i64 n) := by cases a <;> simp only [lenV, h]
def ldK (P : Program) (t : TypeId) : Option (Bool × Nat) := match P.underlying t, P.info? t with
  | some d, some i => some (aggT d, i.size)
  | _, _ => none
theorem ld_scalar {P : Program} {t n : Nat} (h : ldK P t = some (false, n)) (m : Mm) (b o : Nat) : loadV P m t (.pointer (some ⟨b, o, none⟩)) = ldS m b o := by
  unfold ldK at h
  split at h
  · rename_i d i hd hi
    simp only [Option.some.injEq, Prod.mk.injEq] at h
    exact loadV_scalar hd hi h.1 m b o
  · cases h
theorem ld_agg {P : Program} {t n : Nat} (h : ldK P t = some (true, n)) (m : Mm) (b o : Nat) : loadV P m t (.pointer (some ⟨b, o, none⟩)) = ldA m b o n := by
  unfold ldK at h
  split at h
  · rename_i d i hd hi
    simp only [Option.some.injEq, Prod.mk.injEq] at h
    rw [← h.2]
    exact loadV_agg hd hi h.1 m b o
  · cases h
theorem st_eq {P : Program} {t n : Nat} (h : (P.info? t).map (·.size) = some n) (M : Mem) (b o : Nat) (v : Value) : storeE P M t (.pointer (some ⟨b, o, none⟩)) v = stV M b o n v := by
  cases hi : P.info? t with
  | none => rw [hi] at h; cases h
  | some i => rw [hi] at h; simp only [Option.map_some, Option.some.injEq] at h; rw [← h]; exact storeE_eq hi M b o v
def elemSz (P : Program) (t : TypeId) : Option Nat := match P.underlying t with
  | some (.slice e) => (P.info? e).map (·.size)
  | _ => none
theorem ia_eq {P : Program} {t sz : Nat} (h : elemSz P t = some sz) (b o n c : Nat) (k : IntKind) (x : Int) :
    indexAddrV P t (.slice (some ⟨b, o, none⟩) n c) (.int k x) = if 0 ≤ x ∧ x < n then some (.pointer (some ⟨b, o + x.toNat * sz, none⟩)) else none := by
  unfold elemSz at h
  split at h
  · rename_i e he
    cases hi : P.info? e with
    | none => rw [hi] at h; cases h
    | some i => rw [hi] at h; simp only [Option.map_some, Option.some.injEq] at h; rw [← h]; exact indexAddrV_slice he hi b o n c k x
  · cases h
theorem ln_eq {P : Program} {t sz : Nat} (h : elemSz P t = some sz) (a : Option Addr) (n c : Nat) : lenV P t (.slice a n c) = some (.int .i64 n) := by
  unfold elemSz at h
  split at h
  · rename_i e he; exact lenV_slice he a n c
  · cases h
def cvK (P : Program) (src dst : TypeId) : Option (Option IntKind) := match P.underlying src, P.underlying dst with
  | some _, some (.int k) => some (some k)
  | some .string, some .string => some none
  | _, _ => none
theorem cv_int {P : Program} {src dst : Nat} {k : IntKind} (h : cvK P src dst = some (some k)) (k' : IntKind) (n : Int) : convV P src dst (.int k' n) = some (.int k (k.wrap n)) := by
  unfold cvK at h
  split at h
  · rename_i d k₂ h1 h2
    simp only [Option.some.injEq] at h
    rw [← h]; exact convV_int h1 h2 k' n
  · cases h
  · cases h
def faO (P : Program) (t f : Nat) : Option Nat := match P.underlying t with
  | some (.struct fields) => match fields[f]? with
    | some fl => match P.info? fl.type with
      | some i => if i.size = 0 then none else some fl.offset
      | none => none
    | none => none
  | _ => none
theorem fa_eq {P : Program} {t f n : Nat} (h : faO P t f = some n) (b o : Nat) : fieldAddrV P t (.pointer (some ⟨b, o, none⟩)) f = some (.pointer (some ⟨b, o + n, none⟩)) := by
  unfold faO at h
  unfold fieldAddrV
  split at h
  · rename_i fields h1
    simp only [h1]
    split at h
    · rename_i fl h2
      split at h
      · rename_i i h3
        simp only [h2, h3]
        split at h
        · cases h
        · rename_i h0; cases h; simp only [h0, if_false]
      · cases h
    · cases h
  · cases h
theorem Settles.plain {M M0 : Mem} {r : Value} (hp : AY.plain r = true) (hm : ∀ i b, M.get i = some b → M0.get i = some b) : Settles M r M0 r M (fun i => i) where
  next := Nat.le_refl _
  ge := fun i h1 h2 => by omega
  inj := fun i j h1 h2 => by omega
  val := RN.plain hp
  mem := fun i b h => .inl ⟨h, hm i b h⟩
/-- a row of its own, of plain cells -/
def newRow (M : Mem) (cells : List Value) (e : TypeId) : Mem := (M.put M.next ⟨cells, e, true⟩).bump 1
theorem newRow_get (M : Mem) (cells : List Value) (e : TypeId) (i : Nat) : (newRow M cells e).get i = if i = M.next then some ⟨cells, e, true⟩ else M.get i := Mem.get_put _ _ _ _
theorem newRow_next (M : Mem) (cells : List Value) (e : TypeId) : (newRow M cells e).next = M.next + 1 := by unfold newRow; rw [Mem.next_bump, Mem.next_put]
theorem Settles.row {M M0 : Mem} {r r0 : Value} {id : Nat} {cells : List Value} {e : TypeId} (hid : M.next ≤ id) (hb : M0.get id = some ⟨cells, e, true⟩) (hpl : cells.all AY.plain = true) (hob : isObj e = false)
    (hm : ∀ i b, M.get i = some b → M0.get i = some b) (hr : RN (rn M.next fun _ => id) (M.next + 1) r r0) : Settles M r0 M0 r (newRow M cells e) (fun _ => id) where
  next := by rw [newRow_next]; omega
  ge := fun i h1 h2 => hid
  inj := fun i j h1 h2 h3 h4 _ => by rw [newRow_next] at h2 h4; omega
  val := by rw [newRow_next]; exact hr
  mem := fun i b h => by
    rw [newRow_get] at h
    by_cases hi : i = M.next
    · simp only [hi, if_true, Option.some.injEq] at h
      subst h
      refine .inr ⟨by rw [newRow_next]; omega, _, by rw [show rn M.next (fun _ => id) i = id by simp [rn, hi]]; exact hb, hob, rfl, fun h => h, by rw [newRow_next]; exact RNL.plain hpl⟩
    · simp only [hi, if_false] at h
      exact .inl ⟨h, hm i b h⟩

theorem beqT (b : Bool) : (b == true) = b := by cases b <;> rfl
theorem beqF (b : Bool) : (b == false) = !b := by cases b <;> rfl
theorem dstLt_some (k d : Nat) : dstLt k (some d) = decide (d < k) := rfl
theorem dstLt_none (k : Nat) : dstLt k none = true := rfl

/-! ### the steps of a region, told so that only what is looked at is worked out -/
def onB (b : Bool) (f : Unit → Prop) : Prop := bif b then f () else False
def onO {α : Type} (x : Option α) (f : α → Prop) : Prop := match x with
  | some v => f v
  | none => False
def onC {α : Type} (x : Option α) (f : α → Prop) (g : Unit → Prop) : Prop := match x with
  | some v => f v
  | none => g ()
def onK (k : Kind) (a b c d e : Unit → Prop) : Prop := match k with
  | .pure => a ()
  | .read => b ()
  | .alloc => c ()
  | .eff => d ()
  | .call => e ()
def onW (x : Option Bool) (f g : Unit → Prop) : Prop := match x with
  | some true => f ()
  | some false => g ()
  | none => False
theorem onB_true (f : Unit → Prop) : onB true f = f () := rfl
theorem onO_some {α : Type} (v : α) (f : α → Prop) : onO (some v) f = f v := rfl
theorem onC_some {α : Type} (v : α) (f : α → Prop) (g : Unit → Prop) : onC (some v) f g = f v := rfl
theorem onK_pure (a b c d e : Unit → Prop) : onK .pure a b c d e = a () := rfl
theorem onK_read (a b c d e : Unit → Prop) : onK .read a b c d e = b () := rfl
theorem onK_alloc (a b c d e : Unit → Prop) : onK .alloc a b c d e = c () := rfl
theorem onK_eff (a b c d e : Unit → Prop) : onK .eff a b c d e = d () := rfl
theorem onK_call (a b c d e : Unit → Prop) : onK .call a b c d e = e () := rfl
theorem onW_true (f g : Unit → Prop) : onW (some true) f g = f () := rfl
theorem onW_false (f g : Unit → Prop) : onW (some false) f g = g () := rfl

section
variable (P : Program) (ops : Array Oper) (k n0 : Nat) (l : List Oper) (r : Nat) (e : Env) (d : Option Nat) (M : Mem) (K : Env → Mem → Prop) (o : Oper)
def kV (v : Value) : Prop := wpS P ops k n0 l r (e.put d v) M K
def kA (x : Blk × (Nat → Value)) : Prop := wpS P ops k n0 l (r + 1) (e.put d (x.2 (n0 + r))) (M.put (n0 + r) x.1) K
def kE (x : Value × Mem) : Prop := wpS P ops k n0 l r (e.put d x.1) x.2 K
def kC (x : FuncId × Array Value) : Prop := ∃ v M', ACall P x.1 x.2 M v M' ∧ wpS P ops k n0 l r (e.put d v) M' K
def kN (_ : Unit) : Prop := ∃ v M', Known (aev e) o ∧ EffOk P o (aev e) M v M' ∧ wpS P ops k n0 l r (e.put d v) M' K
def kU (_ : Unit) : Prop := wpS P ops k n0 l r (e.put d undef) M K
def sP (_ : Unit) : Prop := onO (pureV P (aev e) o) (kV P ops k n0 l r e o.dst M K)
def sR (_ : Unit) : Prop := onO (readV P (aev e) M.get o) (kV P ops k n0 l r e o.dst M K)
def sA (_ : Unit) : Prop := onO (allocA P (aev e) o.op) (kA P ops k n0 l r e o.dst M K)
def sE (_ : Unit) : Prop := onO (effV P (aev e) M o) (kE P ops k n0 l r e o.dst K)
def sC (_ : Unit) : Prop := onC (callOf P (aev e) o) (kC P ops k n0 l r e o.dst M K) (kN P ops k n0 l r e o.dst M K o)
def sT (_ : Unit) : Prop := onK (kindOf P o) (sP P ops k n0 l r e M K o) (sR P ops k n0 l r e M K o) (sA P ops k n0 l r e M K o) (sE P ops k n0 l r e M K o) (sC P ops k n0 l r e M K o)
def sF (_ : Unit) : Prop := onK (kindOf P o) (kU P ops k n0 l r e o.dst M K) (kU P ops k n0 l r e o.dst M K) (kU P ops k n0 l (r + 1) e o.dst M K) (kU P ops k n0 l r e o.dst M K) (kU P ops k n0 l r e o.dst M K)
def sW (_ : Unit) : Prop := onW (wantA ops e o) (sT P ops k n0 l r e M K o) (sF P ops k n0 l r e M K o)
theorem kV_eq (v : Value) : kV P ops k n0 l r e d M K v = wpS P ops k n0 l r (e.put d v) M K := rfl
theorem kA_eq (b : Blk) (f : Nat → Value) : kA P ops k n0 l r e d M K (b, f) = wpS P ops k n0 l (r + 1) (e.put d (f (n0 + r))) (M.put (n0 + r) b) K := rfl
theorem kE_eq (v : Value) (M' : Mem) : kE P ops k n0 l r e d K (v, M') = wpS P ops k n0 l r (e.put d v) M' K := rfl
theorem kC_eq (f : FuncId) (xs : Array Value) : kC P ops k n0 l r e d M K (f, xs) = ∃ v M', ACall P f xs M v M' ∧ kE P ops k n0 l r e d K (v, M') := rfl
theorem kU_eq : kU P ops k n0 l r e d M K () = wpS P ops k n0 l r (e.put d undef) M K := rfl
theorem sP_eq : sP P ops k n0 l r e M K o () = onO (pureV P (aev e) o) (kV P ops k n0 l r e o.dst M K) := rfl
theorem sR_eq : sR P ops k n0 l r e M K o () = onO (readV P (aev e) M.get o) (kV P ops k n0 l r e o.dst M K) := rfl
theorem sA_eq : sA P ops k n0 l r e M K o () = onO (allocA P (aev e) o.op) (kA P ops k n0 l r e o.dst M K) := rfl
theorem sE_eq : sE P ops k n0 l r e M K o () = onO (effV P (aev e) M o) (kE P ops k n0 l r e o.dst K) := rfl
theorem sC_eq : sC P ops k n0 l r e M K o () = onC (callOf P (aev e) o) (kC P ops k n0 l r e o.dst M K) (kN P ops k n0 l r e o.dst M K o) := rfl
theorem sT_eq : sT P ops k n0 l r e M K o () = onK (kindOf P o) (sP P ops k n0 l r e M K o) (sR P ops k n0 l r e M K o) (sA P ops k n0 l r e M K o) (sE P ops k n0 l r e M K o) (sC P ops k n0 l r e M K o) := rfl
theorem sF_eq : sF P ops k n0 l r e M K o () = onK (kindOf P o) (kU P ops k n0 l r e o.dst M K) (kU P ops k n0 l r e o.dst M K) (kU P ops k n0 l (r + 1) e o.dst M K) (kU P ops k n0 l r e o.dst M K) (kU P ops k n0 l r e o.dst M K) := rfl
theorem sW_eq : sW P ops k n0 l r e M K o () = onW (wantA ops e o) (sT P ops k n0 l r e M K o) (sF P ops k n0 l r e M K o) := rfl
theorem wpS_nil : wpS P ops k n0 [] r e M K = K e M := rfl
theorem wpS_cons : wpS P ops k n0 (o :: l) r e M K = onB (dstLt k o.dst) (sW P ops k n0 l r e M K o) := by
  simp only [wpS, onB, sW, onW, sT, sF, onK, sP, sR, sA, sE, sC, onO, onC, kV, kA, kE, kC, kN, kU]
  cases dstLt k o.dst with
  | false => rfl
  | true =>
    simp only [cond_true]
    rcases wantA ops e o with _ | _ | _
    · rfl
    · cases kindOf P o <;> rfl
    · cases kindOf P o with
      | pure => rcases pureV P (aev e) o with _ | _ <;> rfl
      | read => rcases readV P (aev e) M.get o with _ | _ <;> rfl
      | alloc => rcases allocA P (aev e) o.op with _ | _ <;> rfl
      | eff => rcases effV P (aev e) M o with _ | _ <;> rfl
      | call => rcases callOf P (aev e) o with _ | _ <;> rfl
end

section
variable (P : Program) (ops : Array Oper) (k n0 : Nat) (A U : List (Nat × Nat)) (i : Nat) (l : List (Nat × Oper)) (r : Nat) (e : Env) (d : Option Nat) (M B : Mem) (al : List (Nat × Nat × Blk)) (log : List (Nat × Mem)) (rl : List (Nat × Oper × Env × Value)) (K : Env → Mem → Prop) (o : Oper)
def dV (v : Value) : Prop := wpD P ops k n0 A U l r (e.put d v) M B al log rl K
def dR (v : Value) : Prop := allLog U i (fun B' => readV P (aev e) (withA A al i B'.get) o = some v) log ∧ wpD P ops k n0 A U l r (e.put d v) M B al log ((i, o, e, v) :: rl) K
def dA (x : Blk × (Nat → Value)) : Prop := wpD P ops k n0 A U l (r + 1) (e.put d (x.2 (n0 + r))) (M.put (n0 + r) x.1) B ((i, n0 + r, x.1) :: al) log rl K
def dE (x : Value × Mem) : Prop := allRl P U i x.2.get rl ∧ wpD P ops k n0 A U l r (e.put d x.1) x.2 x.2 [] ((i, B) :: log) rl K
def dC (x : FuncId × Array Value) : Prop := ∃ v M', ACall P x.1 x.2 M v M' ∧ allRl P U i M'.get rl ∧ wpD P ops k n0 A U l r (e.put d v) M' M' [] ((i, B) :: log) rl K
def dN (_ : Unit) : Prop := ∃ v M', Known (aev e) o ∧ EffOk P o (aev e) M v M' ∧ allRl P U i M'.get rl ∧ wpD P ops k n0 A U l r (e.put d v) M' M' [] ((i, B) :: log) rl K
def dU (_ : Unit) : Prop := wpD P ops k n0 A U l r (e.put d undef) M B al log rl K
def dU' (_ : Unit) : Prop := allRl P U i M.get rl ∧ wpD P ops k n0 A U l r (e.put d undef) M M [] ((i, B) :: log) rl K
def tP (_ : Unit) : Prop := onO (pureV P (aev e) o) (dV P ops k n0 A U l r e o.dst M B al log rl K)
def tR (_ : Unit) : Prop := onO (readV P (aev e) (withA A al i B.get) o) (dR P ops k n0 A U i l r e o.dst M B al log rl K o)
def tA (_ : Unit) : Prop := onO (allocA P (aev e) o.op) (dA P ops k n0 A U i l r e o.dst M B al log rl K)
def tE (_ : Unit) : Prop := onO (effV P (aev e) M o) (dE P ops k n0 A U i l r e o.dst B log rl K)
def tC (_ : Unit) : Prop := onC (callOf P (aev e) o) (dC P ops k n0 A U i l r e o.dst M B log rl K) (dN P ops k n0 A U i l r e o.dst M B log rl K o)
def tT (_ : Unit) : Prop := onK (kindOf P o) (tP P ops k n0 A U l r e M B al log rl K o) (tR P ops k n0 A U i l r e M B al log rl K o) (tA P ops k n0 A U i l r e M B al log rl K o) (tE P ops k n0 A U i l r e M B log rl K o) (tC P ops k n0 A U i l r e M B log rl K o)
def tF (_ : Unit) : Prop := onK (kindOf P o) (dU P ops k n0 A U l r e o.dst M B al log rl K) (dU P ops k n0 A U l r e o.dst M B al log rl K) (dU P ops k n0 A U l (r + 1) e o.dst M B al log rl K) (dU' P ops k n0 A U i l r e o.dst M B log rl K) (dU' P ops k n0 A U i l r e o.dst M B log rl K)
theorem dV_eq (v : Value) : dV P ops k n0 A U l r e d M B al log rl K v = wpD P ops k n0 A U l r (e.put d v) M B al log rl K := rfl
theorem dR_eq (v : Value) : dR P ops k n0 A U i l r e d M B al log rl K o v = (allLog U i (fun B' => readV P (aev e) (withA A al i B'.get) o = some v) log ∧ wpD P ops k n0 A U l r (e.put d v) M B al log ((i, o, e, v) :: rl) K) := rfl
theorem dA_eq (b : Blk) (f : Nat → Value) : dA P ops k n0 A U i l r e d M B al log rl K (b, f) = wpD P ops k n0 A U l (r + 1) (e.put d (f (n0 + r))) (M.put (n0 + r) b) B ((i, n0 + r, b) :: al) log rl K := rfl
theorem dE_eq (v : Value) (M' : Mem) : dE P ops k n0 A U i l r e d B log rl K (v, M') = (allRl P U i M'.get rl ∧ wpD P ops k n0 A U l r (e.put d v) M' M' [] ((i, B) :: log) rl K) := rfl
theorem dC_eq (f : FuncId) (xs : Array Value) : dC P ops k n0 A U i l r e d M B log rl K (f, xs) = ∃ v M', ACall P f xs M v M' ∧ dE P ops k n0 A U i l r e d B log rl K (v, M') := rfl
theorem dU_eq : dU P ops k n0 A U l r e d M B al log rl K () = wpD P ops k n0 A U l r (e.put d undef) M B al log rl K := rfl
theorem dU'_eq : dU' P ops k n0 A U i l r e d M B log rl K () = (allRl P U i M.get rl ∧ wpD P ops k n0 A U l r (e.put d undef) M M [] ((i, B) :: log) rl K) := rfl
theorem tP_eq : tP P ops k n0 A U l r e M B al log rl K o () = onO (pureV P (aev e) o) (dV P ops k n0 A U l r e o.dst M B al log rl K) := rfl
theorem tR_eq : tR P ops k n0 A U i l r e M B al log rl K o () = onO (readV P (aev e) (withA A al i B.get) o) (dR P ops k n0 A U i l r e o.dst M B al log rl K o) := rfl
theorem tA_eq : tA P ops k n0 A U i l r e M B al log rl K o () = onO (allocA P (aev e) o.op) (dA P ops k n0 A U i l r e o.dst M B al log rl K) := rfl
theorem tE_eq : tE P ops k n0 A U i l r e M B log rl K o () = onO (effV P (aev e) M o) (dE P ops k n0 A U i l r e o.dst B log rl K) := rfl
theorem tC_eq : tC P ops k n0 A U i l r e M B log rl K o () = onC (callOf P (aev e) o) (dC P ops k n0 A U i l r e o.dst M B log rl K) (dN P ops k n0 A U i l r e o.dst M B log rl K o) := rfl
theorem tT_eq : tT P ops k n0 A U i l r e M B al log rl K o () = onK (kindOf P o) (tP P ops k n0 A U l r e M B al log rl K o) (tR P ops k n0 A U i l r e M B al log rl K o) (tA P ops k n0 A U i l r e M B al log rl K o) (tE P ops k n0 A U i l r e M B log rl K o) (tC P ops k n0 A U i l r e M B log rl K o) := rfl
theorem tF_eq : tF P ops k n0 A U i l r e M B al log rl K o () = onK (kindOf P o) (dU P ops k n0 A U l r e o.dst M B al log rl K) (dU P ops k n0 A U l r e o.dst M B al log rl K) (dU P ops k n0 A U l (r + 1) e o.dst M B al log rl K) (dU' P ops k n0 A U i l r e o.dst M B log rl K) (dU' P ops k n0 A U i l r e o.dst M B log rl K) := rfl
theorem wpD_nil : wpD P ops k n0 A U [] r e M B al log rl K = K e M := rfl
theorem wpD_cons : wpD P ops k n0 A U ((i, o) :: l) r e M B al log rl K = onW (wantA ops e o) (tT P ops k n0 A U i l r e M B al log rl K o) (tF P ops k n0 A U i l r e M B al log rl K o) := by
  simp only [wpD, onW, tT, tF, onK, tP, tR, tA, tE, tC, onO, onC, dV, dR, dA, dE, dC, dN, dU, dU']
  rcases wantA ops e o with _ | _ | _
  · rfl
  · cases kindOf P o <;> rfl
  · cases kindOf P o with
    | pure => rcases pureV P (aev e) o with _ | _ <;> rfl
    | read => rcases readV P (aev e) (withA A al i B.get) o with _ | _ <;> rfl
    | alloc => rcases allocA P (aev e) o.op with _ | _ <;> rfl
    | eff => rcases effV P (aev e) M o with _ | _ <;> rfl
    | call => rcases callOf P (aev e) o with _ | _ <;> rfl
end

attribute [go_sem] wpS_nil wpS_cons wpD_nil wpD_cons onB_true onO_some onC_some onK_pure onK_read onK_alloc onK_eff onK_call onW_true onW_false kV_eq kA_eq kE_eq kC_eq kU_eq sP_eq sR_eq sA_eq sE_eq sC_eq sT_eq sF_eq sW_eq dV_eq dR_eq dA_eq dE_eq dC_eq dU_eq dU'_eq tP_eq tR_eq tA_eq tE_eq tC_eq tT_eq tF_eq nAl kindOf dstLt_some dstLt_none wantA pureV readV effV callOf aev plain Env.put Env.set Env.del Env.get Env.keep argEnv evL evP evO binV_int binV_str intBin strBin unV cond_true cond_false Mem.bump_zero Then InBlock resV retV beq_iff decide_true decide_false List.map allLog allRl inP withA opAt List.getElem?_toArray List.getElem?_cons_succ List.getElem?_cons_zero Option.bind_some Option.getD_some true_and if_true if_false beqT beqF Bool.not_true Bool.not_false
end Go.Proofs.YtopblipficpilaaGreatDoor.AY

/- The layer, twenty-fourth part: rows of cells: read, and grown by appends. -/
namespace Go.Proofs.YtopblipficpilaaGreatDoor.AY
open Go
set_option linter.unusedVariables false
set_option linter.unusedSimpArgs false

/-! ### blocks that stay -/
/-- a block stands there -/
def Has (M : Mem) (i : Nat) (b : Blk) : Prop := rowsOf M.get i = some b ∧ i < M.next
theorem rowsOf_of {m : Mm} {i : Nat} {b : Blk} (h : m i = some b) (ho : isObj b.elem = false) : rowsOf m i = some b := by simp only [rowsOf, h, ho, cond_false]
theorem rowsOf_same {m m' : Mm} {i : Nat} (h : m i = m' i) : rowsOf m i = rowsOf m' i := by simp only [rowsOf, h]
/-- no block stands where none was made -/
def Ok (M : Mem) : Prop := ∀ i b, M.get i = some b → i < M.next
/-- a memory that grew from another one -/
structure Grew (M M1 : Mem) : Prop where
  keep : ∀ i, i < M.next → M1.get i = M.get i
  next : M.next ≤ M1.next
  ok : Ok M → Ok M1
theorem Grew.refl (M : Mem) : Grew M M := ⟨fun _ _ => rfl, Nat.le_refl _, id⟩
theorem Grew.trans {M M1 M2 : Mem} (h : Grew M M1) (h' : Grew M1 M2) : Grew M M2 := ⟨fun i hi => (h'.keep i (Nat.lt_of_lt_of_le hi h.next)).trans (h.keep i hi), Nat.le_trans h.next h'.next, fun hok => h'.ok (h.ok hok)⟩
theorem Grew.within {M M1 : Mem} (h : Grew M M1) (hw : Ok M) : Within M.get M1.get := fun i b hi => by rw [h.keep i (hw i b hi)]; exact hi
theorem Grew.put {M M1 : Mem} (h : Grew M M1) {i : Nat} (hi : M.next ≤ i) (hi' : i < M1.next) (b : Blk) : Grew M (M1.put i b) := ⟨fun j hj => by rw [Mem.get_put, if_neg (by omega)]; exact h.keep j hj, by rw [Mem.next_put]; exact h.next, fun hok j b' hj => by
  rw [Mem.next_put]
  rw [Mem.get_put] at hj
  by_cases hji : j = i
  · rw [hji]; exact hi'
  · rw [if_neg hji] at hj; exact h.ok hok j b' hj⟩
theorem Grew.del {M M1 : Mem} (h : Grew M M1) {i : Nat} (hi : M.next ≤ i) : Grew M (M1.del i) := ⟨fun j hj => by rw [Mem.get_del, if_neg (by omega)]; exact h.keep j hj, h.next, fun hok j b' hj => by
  rw [Mem.get_del] at hj
  by_cases hji : j = i
  · rw [if_pos hji] at hj; cases hj
  · rw [if_neg hji] at hj; exact h.ok hok j b' hj⟩
theorem Grew.bump {M M1 : Mem} (h : Grew M M1) (k : Nat) : Grew M (M1.bump k) := ⟨h.keep, Nat.le_trans h.next (Nat.le_add_right _ _), fun hok j b' hj => Nat.lt_of_lt_of_le (h.ok hok j b' hj) (Nat.le_add_right _ _)⟩
theorem Has.grew {M M1 : Mem} {i : Nat} {b : Blk} (h : Has M i b) (hg : Grew M M1) : Has M1 i b := ⟨(rowsOf_same (hg.keep i h.2)).trans h.1, Nat.lt_of_lt_of_le h.2 hg.next⟩

/-- a row that can be read: so many elements, these cells -/
def Row_ (M : Mem) (v : Value) (n : Nat) (cells : List Value) : Prop :=
  (n = 0 ∧ cells = [] ∧ (v = .slice none 0 0 ∨ ∃ b o c, v = .slice (some ⟨b, o, none⟩) 0 c)) ∨ ∃ b o c blk, v = .slice (some ⟨b, o, none⟩) n c ∧ Has M b blk ∧ o + cells.length ≤ blk.cells.length ∧ (blk.cells.drop o).take cells.length = cells
theorem Row_.grew {M M1 : Mem} {v : Value} {n : Nat} {cells : List Value} (h : Row_ M v n cells) (hg : Grew M M1) : Row_ M1 v n cells := by
  rcases h with h | ⟨b, o, c, blk, h1, h2, h3⟩
  · exact .inl h
  · exact .inr ⟨b, o, c, blk, h1, h2.grew hg, h3⟩
theorem Row_.nil (M : Mem) : Row_ M (.slice none 0 0) 0 [] := .inl ⟨rfl, rfl, .inl rfl⟩
theorem Row_.of {M : Mem} {i : Nat} {b : Blk} (h : Has M i b) {n c : Nat} : Row_ M (.slice (some ⟨i, 0, none⟩) n c) n b.cells := .inr ⟨i, 0, c, b, rfl, h, by simp, by simp⟩
theorem Row_.content {M : Mem} {v : Value} {n sz : Nat} {cells : List Value} (h : Row_ M v n cells) (hl : cells.length = n * sz) : contentV M.get sz v = some (n, cells) := by
  rcases h with ⟨rfl, rfl, rfl | ⟨b, o, c, rfl⟩⟩ | ⟨b, o, c, blk, rfl, h2, h3, h4⟩
  · rfl
  · rfl
  · simp only [contentV]
    by_cases h0 : n = 0
    · subst h0
      simp only [if_true]
      have : cells = [] := List.eq_nil_of_length_eq_zero (by rw [hl]; simp)
      rw [this]
    · rw [if_neg h0, h2.1]
      simp only
      rw [if_pos (by rw [← hl]; exact h3), ← hl, h4]
theorem Row_.len {M : Mem} {v : Value} {n : Nat} {cells : List Value} (h : Row_ M v n cells) {P : Program} {t sz : Nat} (ht : elemSz P t = some sz) : lenV P t v = some (.int .i64 n) := by
  rcases h with ⟨rfl, rfl, rfl | ⟨b, o, c, rfl⟩⟩ | ⟨b, o, c, blk, rfl, _⟩
  · exact ln_eq ht _ _ _
  · exact ln_eq ht _ _ _
  · exact ln_eq ht _ _ _
/-- where an element stands, and what stands there, now and later on -/
theorem Row_.at {M : Mem} {v : Value} {n sz : Nat} {cells : List Value} (h : Row_ M v n cells) (hl : cells.length = n * sz) {P : Program} {t : Nat} (ht : elemSz P t = some sz) {i : Nat} (hi : i < n) :
    ∃ b q, (∀ k, indexAddrV P t v (.int k i) = some (.pointer (some ⟨b, q, none⟩))) ∧ ∀ M1, Grew M M1 → (∀ j, j < sz → ldS M1.get b (q + j) = cells[i * sz + j]?) ∧ ldA M1.get b q sz = some (.agg ((cells.drop (i * sz)).take sz).toArray) := by
  have hle : i * sz + sz ≤ n * sz := by rw [← Nat.succ_mul]; exact Nat.mul_le_mul_right _ hi
  rcases h with ⟨rfl, _⟩ | ⟨b, o, c, blk, rfl, h2, h3, h4⟩
  · omega
  · refine ⟨b, o + i * sz, fun k => ?_, fun M1 hg => ⟨fun j hj => ?_, ?_⟩⟩
    · rw [ia_eq ht, if_pos ⟨by omega, by omega⟩]; simp
    · rw [ldS_at (h2.grew hg).1]
      have := congrArg (fun l => l[i * sz + j]?) h4
      simp only [List.getElem?_take, List.getElem?_drop] at this
      rw [if_pos (by omega)] at this
      rw [Nat.add_assoc]; exact this
    · rw [ldA_at (h2.grew hg).1, if_pos (by omega)]
      rw [← h4, hl, List.drop_take, List.take_take, List.drop_drop, Nat.min_eq_left (by omega)]

theorem Row_.at1 {M : Mem} {v : Value} {n : Nat} {cells : List Value} (h : Row_ M v n cells) (hl : cells.length = n) {P : Program} {t : Nat} (ht : elemSz P t = some 1) {i : Nat} (hi : i < n) :
    ∃ b q, (∀ k, indexAddrV P t v (.int k i) = some (.pointer (some ⟨b, q, none⟩))) ∧ ∀ M1, Grew M M1 → ldS M1.get b q = cells[i]? := by
  obtain ⟨b, q, h1, h2⟩ := h.at (sz := 1) (by omega) ht hi
  exact ⟨b, q, h1, fun M1 hg => by have := (h2 M1 hg).1 0 (by omega); simpa using this⟩

/-- a row of its own, in a memory that grew from another one -/
def Own (M M1 : Mem) (v : Value) (n : Nat) (cells : List Value) (e : TypeId) : Prop :=
  (v = .slice none 0 0 ∧ n = 0 ∧ cells = []) ∨ ∃ id c blk, M.next ≤ id ∧ id < M1.next ∧ v = .slice (some ⟨id, 0, none⟩) n c ∧ M1.get id = some blk ∧ blk.rw = true ∧ (blk.elem = e ∧ isObj e = false) ∧ (n = 0 ∧ cells = [] ∨ blk.cells = cells)
theorem Own.row {M M1 : Mem} {v : Value} {n : Nat} {cells : List Value} {e : TypeId} (h : Own M M1 v n cells e) : Row_ M1 v n cells := by
  rcases h with ⟨h1, h2, h3⟩ | ⟨id, c, blk, _, h1, h2, h3, _, ⟨he, hob⟩, ⟨rfl, rfl⟩ | rfl⟩
  · exact .inl ⟨h2, h3, .inl h1⟩
  · exact .inl ⟨rfl, rfl, .inr ⟨_, _, _, h2⟩⟩
  · exact .inr ⟨id, 0, c, _, h2, ⟨rowsOf_of h3 (by rw [he]; exact hob), h1⟩, by simp, by simp⟩
theorem Own.nil (M M1 : Mem) (e : TypeId) : Own M M1 (.slice none 0 0) 0 [] e := .inl ⟨rfl, rfl, rfl⟩
theorem Own.grew {M M1 M2 : Mem} {v : Value} {n : Nat} {cells : List Value} {e : TypeId} (h : Own M M1 v n cells e) (hg : Grew M1 M2) : Own M M2 v n cells e := by
  rcases h with h | ⟨id, c, blk, h0, h1, h2, h3, h4⟩
  · exact .inl h
  · exact .inr ⟨id, c, blk, h0, Nat.lt_of_lt_of_le h1 hg.next, h2, by rw [hg.keep id h1]; exact h3, h4⟩
theorem Own.base {M M0 M1 : Mem} {v : Value} {n : Nat} {cells : List Value} {e : TypeId} (h : Own M M1 v n cells e) (hn : M0.next ≤ M.next) : Own M0 M1 v n cells e := by
  rcases h with h | ⟨id, c, blk, h0, h1⟩
  · exact .inl h
  · exact .inr ⟨id, c, blk, Nat.le_trans hn h0, h1⟩
/-- a value that is no row in this block -/
def Apart (v : Value) (j : Nat) : Prop := ∀ o n c, v ≠ .slice (some ⟨j, o, none⟩) n c
theorem Own.apart {M M1 : Mem} {v : Value} {n : Nat} {cells : List Value} {e : TypeId} (h : Own M M1 v n cells e) {j : Nat} (hj : j < M.next ∨ M1.next ≤ j) : Apart v j := by
  rintro o n' c rfl
  rcases h with ⟨h, _⟩ | ⟨id, c', blk, h0, h1, h2, _⟩
  · cases h
  · cases h2; omega

/-- what an append to such a row comes to -/
structure AppFacts (P : Program) (t tx e : TypeId) (sz bytes : Nat) : Prop where
  ht : P.underlying t = some (.slice e)
  hx : ∃ d, P.underlying tx = some d ∧ isInt d = false
  hi : ∃ i, P.info? e = some i ∧ i.size = sz ∧ i.bytes = bytes
  hz : ∃ z, zeroC P e = some z ∧ z.size = sz
  hb : bytes ≠ 0
  ho : isObj e = false
def appK (P : Program) (t tx e sz bytes : Nat) : Bool := match P.underlying t, P.underlying tx, P.info? e, zeroC P e with
  | some (.slice e'), some d, some i, some z => Nat.beq e' e && !(isInt d) && Nat.beq i.size sz && Nat.beq i.bytes bytes && Nat.beq z.size sz && !(Nat.beq bytes 0) && !(isObj e)
  | _, _, _, _ => false
theorem appFacts {P : Program} {t tx e sz bytes : Nat} (h : appK P t tx e sz bytes = true) : AppFacts P t tx e sz bytes := by
  unfold appK at h
  split at h
  · rename_i e' d i z h1 h2 h3 h4
    simp only [beq_iff, Bool.and_eq_true, decide_eq_true_eq, Bool.not_eq_true', decide_eq_false_iff_not] at h
    obtain ⟨⟨⟨⟨⟨⟨a1, a2⟩, a3⟩, a4⟩, a5⟩, a6⟩, a7⟩ := h
    subst a1
    exact ⟨h1, ⟨d, h2, a2⟩, ⟨i, h3, a3, a4⟩, ⟨z, h4, a5⟩, a6, a7⟩
  · cases h

theorem Own.append {P : Program} {t tx e sz bytes : Nat} (hf : AppFacts P t tx e sz bytes) {M M1 : Mem} {v x : Value} {n k : Nat} {cells news : List Value} (hg : Grew M M1) (h : Own M M1 v n cells e) (hl : cells.length = n * sz)
    (hx : contentV M1.get sz x = some (k, news)) (hone : oneCells news = true) (hb : (n + k) * bytes ≤ 140737488355328) :
    ∃ v2 M2, appendE P M1 t tx v x = some (v2, M2) ∧ Own M M2 v2 (n + k) (cells ++ news) e ∧ Grew M M2 ∧ M1.next ≤ M2.next ∧ (∀ j, j < M1.next → Apart v j → M2.get j = M1.get j ∧ Apart v2 j) := by
  obtain ⟨ht, ⟨d, hd, hdi⟩, ⟨i, hi, hsz, hby⟩, ⟨z, hz, hzs⟩, hb0, hob⟩ := hf
  have hc1 : contentV M1.get sz v = some (n, cells) := h.row.content hl
  subst hsz hby
  have hcond : ¬ (isObj e = true ∨ isInt d = true ∨ i.bytes = 0 ∨ z.size ≠ i.size) := by rw [hdi, hzs, hob]; simp [hb0]
  have hk0 : k = 0 → news = [] := by
    intro hk
    unfold contentV at hx
    split at hx
    · injection hx with hx; injection hx with _ hx; exact hx.symm
    · split at hx
      · injection hx with hx; injection hx with _ hx; exact hx.symm
      · rename_i h0
        split at hx
        · split at hx
          · injection hx with hx; injection hx with hx _; exact absurd (hx.trans hk) h0
          · cases hx
        · cases hx
    · subst hk
      split at hx
      · rename_i s _
        injection hx with hx
        injection hx with h1 h2
        rw [← h2]
        have : s.data.toList = [] := List.eq_nil_of_length_eq_zero h1
        rw [this]; rfl
      · cases hx
    · cases hx
  have grown : ∀ N : Mem, Grew M N → M1.next ≤ N.next → N.next ≤ M1.next → (∀ j, j < M1.next → Apart v j → N.get j = M1.get j) →
      Own M (grownE P N e (cells ++ news) (n + k)).2 (grownE P N e (cells ++ news) (n + k)).1 (n + k) (cells ++ news) e ∧ Grew M (grownE P N e (cells ++ news) (n + k)).2 ∧ M1.next ≤ (grownE P N e (cells ++ news) (n + k)).2.next ∧
        (∀ j, j < M1.next → Apart v j → (grownE P N e (cells ++ news) (n + k)).2.get j = M1.get j ∧ Apart (grownE P N e (cells ++ news) (n + k)).1 j) := by
    intro N hN h1 h2 hj
    have hnx : (grownE P N e (cells ++ news) (n + k)).2.next = N.next + 1 := grownE_next _ _ _ _ _
    have hget : ∀ j, (grownE P N e (cells ++ news) (n + k)).2.get j = if j = N.next then some ⟨cells ++ news, e, true⟩ else N.get j := fun j => by unfold grownE; rw [Mem.get_bump, Mem.get_put]
    refine ⟨.inr ⟨N.next, unk, _, hN.next, by rw [hnx]; omega, rfl, by rw [hget, if_pos rfl], rfl, ⟨rfl, hob⟩, .inr rfl⟩, ⟨fun j hj' => ?_, by rw [hnx]; have := hN.next; omega, fun hok j b' hj' => ?_⟩, by rw [hnx]; omega, fun j hj' hv => ?_⟩
    · rw [hget, if_neg (by have := hN.next; omega)]; exact hN.keep j hj'
    · rw [hnx]
      rw [hget] at hj'
      by_cases hji : j = N.next
      · omega
      · rw [if_neg hji] at hj'; exact Nat.lt_succ_of_lt (hN.ok hok j b' hj')
    · refine ⟨by rw [hget, if_neg (by omega)]; exact hj j hj' hv, ?_⟩
      intro o n' c' hh
      simp only [grownE, rowTo, Value.slice.injEq, Option.some.injEq, Addr.mk.injEq] at hh
      omega
  rcases h with ⟨rfl, rfl, rfl⟩ | ⟨id, c, blk, q1, q2, rfl, q4, q5, q6, q7⟩
  · by_cases h0 : k = 0
    · refine ⟨.slice none 0 0, M1, ?_, .inl ⟨rfl, by omega, by rw [hk0 h0]; rfl⟩, hg, Nat.le_refl _, fun j _ hv => ⟨rfl, hv⟩⟩
      simp only [appendE, ht, hd, hi, hz, hcond, if_false, hc1, hx, h0, if_true]
    · refine ⟨_, _, ?_, grown M1 hg (Nat.le_refl _) (Nat.le_refl _) fun _ _ _ => rfl⟩
      simp only [appendE, ht, hd, hi, hz, hcond, if_false, hc1, hx, h0, hb, if_true]
  · by_cases h0 : k = 0
    · refine ⟨.slice (some ⟨id, 0, none⟩) n c, M1, ?_, .inr ⟨id, c, blk, q1, q2, by rw [h0]; rfl, q4, q5, q6, by rw [hk0 h0, List.append_nil, h0]; exact q7⟩, hg, Nat.le_refl _, fun j _ hv => ⟨rfl, hv⟩⟩
      simp only [appendE, ht, hd, hi, hz, hcond, if_false, hc1, hx, h0, if_true]
    · by_cases hex : c ≠ unk ∧ c < n + k
      · refine ⟨_, _, ?_, grown M1 hg (Nat.le_refl _) (Nat.le_refl _) fun _ _ _ => rfl⟩
        simp only [appendE, ht, hd, hi, hz, hcond, if_false, hc1, hx, h0, hb, hone, and_self, if_true]
        rw [if_pos hex]
      · refine ⟨_, _, ?_, grown (M1.del id) (hg.del q1) (Nat.le_refl _) (Nat.le_refl _) fun j hj hv => ?_⟩
        · simp only [appendE, ht, hd, hi, hz, hcond, if_false, hc1, hx, h0, hb, hone, and_self, if_true]
          rw [if_neg hex, rowsOf_of q4 (by rw [q6.1]; exact q6.2)]
          simp only [q5, q6.1, and_self, if_true]
        · rw [Mem.get_del, if_neg]
          rintro rfl
          exact hv 0 n c rfl

/-! ### bytes -/
def cB (l : List Int) : List Value := l.map (Value.int .u8)
theorem cB_length (l : List Int) : (cB l).length = l.length := by simp [cB]
theorem cB_append (l m : List Int) : cB (l ++ m) = cB l ++ cB m := by simp [cB]
theorem cB_one (l : List Int) : oneCells (cB l) = true := by simp [oneCells, cB, Value.oneCell']
theorem cB_plain (l : List Int) : (cB l).all plain = true := by simp [cB, plain]
abbrev RowB (M : Mem) (v : Value) (l : List Int) : Prop := Row_ M v l.length (cB l)
abbrev OwnB (M M1 : Mem) (v : Value) (l : List Int) (e : TypeId) : Prop := Own M M1 v l.length (cB l) e

theorem Grew.row {M : Mem} (cells : List Value) (e : TypeId) : Grew M (newRow M cells e) := ⟨fun i hi => by rw [newRow_get, if_neg (by omega)], by rw [newRow_next]; omega, fun hok j b' hj => by
  rw [newRow_get] at hj
  rw [newRow_next]
  by_cases hji : j = M.next
  · omega
  · rw [if_neg hji] at hj; exact Nat.lt_succ_of_lt (hok j b' hj)⟩
/-- how a function ends: what it gives back, told anew, or as it is -/
def Fin (P : Program) (rs : List ResultVar) (M : Mem) (Φ : Value → Mem → Prop) : Exit → St → Prop := fun e s' => ((e = .normal ∨ e = .ret) ∧ s'.dfr = []) ∧ ∃ r0 r M', retV P rs s' = some r0 ∧ ((∃ π, Settles M r0 s'.mem r M' π) ∨ (r = r0 ∧ M' = s'.mem)) ∧ Φ r M'
theorem ACall.fin {P : Program} {f : FuncId} {fn : Func} {c : Code} {k : Nat} {rs : List ResultVar} {args : List Value} {M : Mem} {Φ : Value → Mem → Prop} (hf : P.funcs[f]? = some fn) (hb : fn.body = some c) (hkk : fn.ntmps = k) (hrs : fn.results.toList = rs) (hk : args.length ≤ k)
    (h : AWP P none k c ⟨argEnv 0 args, M, []⟩ (Fin P rs M Φ)) : ∃ r M', ACall P f args.toArray M r M' ∧ Φ r M' := by
  obtain ⟨e, s', hrun, ⟨he, hd⟩, r0, r, M', h1, h2, h3⟩ := h
  exact ⟨r, M', ACall.bodyK hf hb hkk hrs hk fun _ => ⟨e, s', hrun, he, hd, r0, h1, h2⟩, h3⟩
theorem Fin.plain {P : Program} {rs : List ResultVar} {M : Mem} {Φ : Value → Mem → Prop} {e : Exit} {s : St} {v : Value} (he : (e = .normal ∨ e = .ret) ∧ s.dfr = []) (hr : retV P rs s = some v) (hp : AY.plain v = true) (hok : Ok M) (hg : Grew M s.mem) (h : Φ v M) : Fin P rs M Φ e s :=
  ⟨he, v, v, M, hr, .inl ⟨_, Settles.plain hp (hg.within hok)⟩, h⟩
/-- what was made stays -/
theorem Fin.keep {P : Program} {rs : List ResultVar} {M : Mem} {Φ : Value → Mem → Prop} {e : Exit} {s : St} {v : Value} (he : (e = .normal ∨ e = .ret) ∧ s.dfr = []) (hr : retV P rs s = some v) (h : Φ v s.mem) : Fin P rs M Φ e s :=
  ⟨he, v, v, s.mem, hr, .inr ⟨rfl, rfl⟩, h⟩
/-- a row of its own given back (f: how the result holds it) -/
theorem Fin.own {P : Program} {rs : List ResultVar} {M : Mem} {Φ : Value → Mem → Prop} {ex : Exit} {s : St} {v : Value} (f : Value → Value) {n : Nat} {cells : List Value} {e : TypeId} (he : (ex = .normal ∨ ex = .ret) ∧ s.dfr = []) (hr : retV P rs s = some (f v)) (hok : Ok M) (hg : Grew M s.mem)
    (ho : Own M s.mem v n cells e) (hpl : cells.all AY.plain = true) (hf : ∀ g hi v v', RN g hi v v' → RN g hi (f v) (f v')) (h : ∀ r M', Grew M M' → Row_ M' r n cells → (n ≠ 0 → Own M M' r n cells e) → Φ (f r) M') : Fin P rs M Φ ex s := by
  have hw := hg.within hok
  rcases ho with ⟨rfl, rfl, rfl⟩ | ⟨id, c, blk, q1, q2, rfl, q3, q4, q5, ⟨rfl, rfl⟩ | q6⟩
  · exact ⟨he, _, f (.slice none 0 0), M, hr, .inl ⟨fun i => i, Nat.le_refl _, fun i h1 h2 => by omega, fun i j h1 h2 => by omega, hf _ _ _ _ .nils, fun i b h => .inl ⟨h, hw i b h⟩⟩, h _ _ (Grew.refl _) (Row_.nil _) (fun h => absurd rfl h)⟩
  · refine ⟨he, _, f (.slice (some ⟨M.next, 0, none⟩) 0 unk), M.bump 1, hr, .inl ⟨fun _ => id, Nat.le_succ _, fun i h1 h2 => q1, fun i j h1 h2 h3 h4 _ => ?_, hf _ _ _ _ ?_, fun i b h => .inl ⟨h, hw i b h⟩⟩, h _ _ ((Grew.refl _).bump 1) (.inl ⟨rfl, rfl, .inr ⟨_, _, _, rfl⟩⟩) (fun h => absurd rfl h)⟩
    · rw [Mem.next_bump] at h2 h4; omega
    · exact .slice (by rw [Mem.next_bump]; omega) (by simp [rn]) (.inr rfl)
  · obtain ⟨bc, be, br⟩ := blk
    simp only at q4 q5 q6
    obtain ⟨q5, q5o⟩ := q5
    subst q4 q5 q6
    exact ⟨he, _, f (rowTo n unk M.next), newRow M bc be, hr, .inl ⟨fun _ => id, Settles.row q1 q3 hpl q5o hw (hf _ _ _ _ (.slice (by omega) (by simp [rn]) (.inr rfl)))⟩, h (rowTo n unk M.next) (newRow M bc be) (Grew.row _ _) (Row_.of (b := ⟨bc, be, true⟩) ⟨rowsOf_of (by rw [newRow_get, if_pos rfl]) q5o, by rw [newRow_next]; omega⟩)
      fun _ => .inr ⟨M.next, unk, _, Nat.le_refl _, by rw [newRow_next]; omega, rfl, by rw [newRow_get, if_pos rfl], rfl, ⟨rfl, q5o⟩, .inr rfl⟩⟩

/-! ### steps of a walk -/
theorem AWP.keep {P : Program} {r : Option Nat} {k : Nat} {c : Code} {s : St} {Q : Exit → St → Prop} (l : List Nat) (h : AWP P r k c ⟨s.env.keep l, s.mem, s.dfr⟩ Q) : AWP P r k c s Q :=
  let ⟨e, s', hr, hQ⟩ := h
  ⟨e, s', fun n₀ ρ a w hc hle => hr n₀ ρ a w ⟨fun t v ht => hc.er t v (Env.get_keep _ _ _ _ ht), hc.hr, hc.free, hc.defers, hc.size⟩ hle, hQ⟩
theorem AWP.stepR {P : Program} {k id : Nat} {ops : Array Oper} {d : Code} {e0 : Env} {M0 : Mem} {dd : List Dfr} {Q : Exit → St → Prop} (live : List Nat)
    (h : ∀ K : Env → Mem → Prop, (∀ e M e', e.keep live = e' → AWP P none k d ⟨e', M, dd⟩ Q → K e M) → wpS P ops k M0.next ops.toList 0 e0 (M0.bump (nAl P ops.toList)) K) : AWP P none k (.seq (.region id ops false) d) ⟨e0, M0, dd⟩ Q :=
  AWP.seq (AWP.region (h (fun e M => AWP P none k d ⟨e, M, dd⟩ Q) fun e M e' he hq => AWP.keep live (by rw [he]; exact hq)))
theorem AWP.lastR {P : Program} {k id : Nat} {ops : Array Oper} {e0 : Env} {M0 : Mem} {dd : List Dfr} {Q : Exit → St → Prop}
    (h : ∀ K : Env → Mem → Prop, (∀ e M, Q .normal ⟨e, M, dd⟩ → K e M) → wpS P ops k M0.next ops.toList 0 e0 (M0.bump (nAl P ops.toList)) K) : AWP P none k (.region id ops false) ⟨e0, M0, dd⟩ Q :=
  AWP.region (h (fun e M => Q .normal ⟨e, M, dd⟩) fun e M hq => hq)
theorem AWP.stepD {P : Program} (hmo : P.follows .mixedOrders = true) {k id : Nat} {ops : Array Oper} {d : Code} {e0 : Env} {M0 : Mem} {dd : List Dfr} {Q : Exit → St → Prop} (ord msk : List Nat) (A U : List (Nat × Nat)) (hreg : okReg P k ops ord msk A U = true) (live : List Nat)
    (h : ∀ K : Env → Mem → Prop, (∀ e M e', e.keep live = e' → AWP P none k d ⟨e', M, dd⟩ Q → K e M) → wpD P ops k M0.next A U (ord.map fun i => (i, opAt ops i)) 0 e0 (M0.bump (nAl P (ord.map fun i => opAt ops i))) (M0.bump (nAl P (ord.map fun i => opAt ops i))) [] [] [] K) : AWP P none k (.seq (.region id ops true) d) ⟨e0, M0, dd⟩ Q :=
  AWP.seq (AWP.regionD hmo ord msk A U hreg (h (fun e M => AWP P none k d ⟨e, M, dd⟩ Q) fun e M e' he hq => AWP.keep live (by rw [he]; exact hq)))
/-- a step whose outcome is told ahead -/
theorem AWP.stepX {P : Program} {k id : Nat} {ops : Array Oper} {d : Code} {e0 : Env} {M0 : Mem} {dd : List Dfr} {Q : Exit → St → Prop} (live : List Nat) (e' : Env) (M' : Mem)
    (h : ∀ K : Env → Mem → Prop, (∀ e, e.keep live = e' → K e M') → wpS P ops k M0.next ops.toList 0 e0 (M0.bump (nAl P ops.toList)) K) (h' : AWP P none k d ⟨e', M', dd⟩ Q) : AWP P none k (.seq (.region id ops false) d) ⟨e0, M0, dd⟩ Q :=
  AWP.stepR live fun K hK => h K fun e he => hK e M' e' he h'
theorem Then.exit {id : Nat} {K : St → Prop} {Q : Exit → St → Prop} {s : St} (h : Q (.exit id) s) : Then K Q (.exit id) s := h
theorem Then.ret {K : St → Prop} {Q : Exit → St → Prop} {s : St} (h : Q .ret s) : Then K Q .ret s := h
theorem InBlock.ret {id : Nat} {Q : Exit → St → Prop} {s : St} (h : Q .ret s) : InBlock id Q .ret s := h
theorem InBlock.same {id : Nat} {Q : Exit → St → Prop} {s : St} (h : Q .normal s) : InBlock id Q (.exit id) s := by simp only [InBlock, if_true]; exact h
theorem i64w {n : Int} (h : -9223372036854775808 ≤ n) (h' : n ≤ 9223372036854775807) : IntKind.i64.wrap n = n := IntWalk.i64_in n ⟨h, h'⟩
theorem AWP.condS {P : Program} {k : Nat} {c : Operand} {x y d : Code} {s : St} {Q : Exit → St → Prop} {t : Bool} (hc : aev s.env c = some (.bool t)) (h : t = true → AWP P none k x s (Then (fun s' => AWP P none k d s' Q) Q)) (h' : t = false → AWP P none k y s (Then (fun s' => AWP P none k d s' Q) Q)) : AWP P none k (.seq (.cond c x y) d) s Q :=
  AWP.seq (AWP.cond_split hc h h')
theorem AWP.loopK {P : Program} {k : Nat} {c : Code} {e0 : Env} {M0 : Mem} {dd : List Dfr} {Q : Exit → St → Prop} (live : List Nat) (I : Nat → Env → Mem → Prop) (n0 : Nat) (h0 : I n0 (e0.keep live) M0)
    (round : ∀ n e M, I n e M → AWP P none k c ⟨e, M, dd⟩ (Then (fun s' => s'.dfr = dd ∧ ∃ n', n' < n ∧ I n' (s'.env.keep live) s'.mem) Q)) : AWP P none k (.loop c) ⟨e0, M0, dd⟩ Q := by
  have key : ∀ n (s1 : St), s1.dfr = dd → I n (s1.env.keep live) s1.mem → ∃ r e s', Rounds P none k c r s1 e s' ∧ Q e s' := by
    intro n
    induction n using Nat.strongRecOn with
    | _ n ih =>
      intro s1 hd hI
      have hround := round n _ _ hI
      rw [← hd] at hround
      obtain ⟨e, s₁, hr, hq⟩ := AWP.keep live hround
      cases e with
      | normal =>
        obtain ⟨hd', n', hn, hI'⟩ := hq
        obtain ⟨r, e, s', hr', hq'⟩ := ih n' hn s₁ (hd'.trans hd) hI'
        exact ⟨_, e, s', .more hr hr', hq'⟩
      | exit id => exact ⟨1, _, s₁, .out hr (by simp), hq⟩
      | goto l => exact ⟨1, _, s₁, .out hr (by simp), hq⟩
      | ret => exact ⟨1, _, s₁, .out hr (by simp), hq⟩
      | panic ch => exact ⟨1, _, s₁, .out hr (by simp), hq⟩
      | outgrown => exact ⟨1, _, s₁, .out hr (by simp), hq⟩
  obtain ⟨r, e, s', hr, hq⟩ := key n0 ⟨e0, M0, dd⟩ rfl h0
  exact ⟨e, s', ARun.loop hr, hq⟩
end Go.Proofs.YtopblipficpilaaGreatDoor.AY

/- The layer, twenty-fifth part: what is made, as closed facts of its type; calls' operands. -/
namespace Go.Proofs.YtopblipficpilaaGreatDoor.AY
open Go
set_option linter.unusedVariables false
set_option linter.unusedSimpArgs false

def numP : Nat → List Operand → List (Nat × Operand)
  | _, [] => []
  | i, x :: xs => (i, x) :: numP (i + 1) xs
def numV : Nat → List Value → List (Nat × Value)
  | _, [] => []
  | i, x :: xs => (i, x) :: numV (i + 1) xs
theorem evP_num {ev : Operand → Option Value} : ∀ {xs : List Operand} {vs : List Value} {i : Nat}, evL ev xs = some vs → evP ev (numP i xs) = some (numV i vs) ∧ vs.length = xs.length := by
  intro xs
  induction xs with
  | nil => intro vs i h; simp only [evL, Option.some.injEq] at h; subst h; exact ⟨rfl, rfl⟩
  | cons x xs ih =>
    intro vs i h
    simp only [evL] at h
    split at h
    · rename_i v us h1 h2
      cases h
      obtain ⟨h3, h4⟩ := ih (i := i + 1) h2
      exact ⟨by simp only [numP, evP, h1, h3, numV], by simp [h4]⟩
    · cases h
theorem one_cells {v : Value} (h : v.oneCell' = true) : v.cells = #[v] := by cases v <;> first | rfl | (simp [Value.oneCell'] at h)
theorem fill_num : ∀ (vs : List Value) (i : Nat) (cells : Array Value), vs.all Value.oneCell' = true → i + vs.length ≤ cells.size →
    ∃ r, Instr.fill (fun n => some (n * 1, 1)) cells (numV i vs) = some r ∧ r.size = cells.size ∧ ∀ j, r[j]? = if i ≤ j ∧ j < i + vs.length then vs[j - i]? else cells[j]? := by
  intro vs
  induction vs with
  | nil => intro i cells _ _; exact ⟨cells, rfl, rfl, fun j => by rw [if_neg (by simp only [List.length_nil]; omega)]⟩
  | cons v vs ih =>
    intro i cells h1 h2
    simp only [List.all_cons, Bool.and_eq_true] at h1
    simp only [List.length_cons] at h2
    obtain ⟨r, e1, e2, e3⟩ := ih (i + 1) (cells.setIfInBounds i v) h1.2 (by simp; omega)
    refine ⟨r, ?_, by simpa using e2, fun j => ?_⟩
    · simp only [numV, Instr.fill, one_cells h1.1, Nat.mul_one]
      rw [if_neg (by simp; omega)]
      simpa using e1
    · rw [e3]
      by_cases hj : j = i
      · subst hj
        rw [if_neg (by omega), if_pos (by simp)]
        simp [show j < cells.size by omega]
      · by_cases hj2 : i + 1 ≤ j ∧ j < i + 1 + vs.length
        · rw [if_pos hj2, if_pos (by simp; omega), show j - i = (j - (i + 1)) + 1 by omega, List.getElem?_cons_succ]
        · rw [if_neg hj2, if_neg (by simp; omega), Array.getElem?_setIfInBounds_ne (by omega)]

theorem alloc_of {P : Program} {ev : Operand → Option Value} {op : Op} {b : Blk} {mk : Nat → Value} (h : allocA0 P ev op = some (b, mk)) (ho : isObj b.elem = false) : allocA P ev op = some (b, mk) := by
  unfold allocA
  split
  · simp [allocA0] at h
  · simp only [h, ho, cond_false]
/-- what stands in for what is not looked into -/
def allocB (P : Program) (ev : Operand → Option Value) (op : Op) : Option (Blk × (Nat → Value)) := allocA P ev op
def bsR (fb : Option (Blk × (Nat → Value))) (e n : Nat) : Option (List Value) → Option (Blk × (Nat → Value))
  | some vs => bif vs.all Value.oneCell' then some (⟨vs, e, true⟩, rowTo n n) else fb
  | none => fb
theorem bsR_some {fb : Option (Blk × (Nat → Value))} {e n : Nat} {vs : List Value} : bsR fb e n (some vs) = bif vs.all Value.oneCell' then some (⟨vs, e, true⟩, rowTo n n) else fb := rfl
/-- a type's elements take one cell, of which the first is plain -/
def oneSz (P : Program) (t e b : TypeId) : Bool := match P.underlying t, P.info? e, zeroC P e with
  | some (.slice e'), some i, some z => Nat.beq e' e && Nat.beq i.size 1 && Nat.beq i.bytes b && Nat.beq z.size 1 && plains z && !(isObj e)
  | _, _, _ => false
theorem oneSz_spec {P : Program} {t e b : TypeId} (h : oneSz P t e b = true) : P.underlying t = some (.slice e) ∧ ∃ i z, P.info? e = some i ∧ i.size = 1 ∧ i.bytes = b ∧ zeroC P e = some z ∧ z.size = 1 ∧ plains z = true ∧ isObj e = false := by
  unfold oneSz at h
  split at h
  · rename_i e' i z h1 h2 h3
    simp only [beq_iff, Bool.and_eq_true, decide_eq_true_eq, Bool.not_eq_true'] at h
    obtain ⟨⟨⟨⟨⟨rfl, a2⟩, a3⟩, a4⟩, a5⟩, a6⟩ := h
    exact ⟨h1, i, z, h2, a2, a3, h3, a4, a5, a6⟩
  · cases h
theorem bs_dense {P : Program} {t e b n : Nat} (hk : oneSz P t e b = true) (xs : List Operand) (hn : xs.length = n) (hn' : n ≤ 16777216) (ev : Operand → Option Value) {parts : Array (Nat × Operand)} (hp : parts.toList = numP 0 xs) :
    allocA P ev (.buildSlice t n parts) = bsR (allocB P ev (.buildSlice t n parts)) e n (evL ev xs) := by
  obtain ⟨ht, i, z, hi, hs, _, hz, hz1, hz2, hob⟩ := oneSz_spec hk
  cases hv : evL ev xs with
  | none => rfl
  | some vs =>
    rw [bsR_some]
    cases ho : vs.all Value.oneCell' with
    | false => rfl
    | true =>
      simp only [cond_true]
      obtain ⟨h1, h2⟩ := evP_num (i := 0) hv
      subst hn
      obtain ⟨r, e1, e2, e3⟩ := fill_num vs 0 ((Array.range (xs.length * 1)).map (z[· % z.size]!)) ho (by simp; omega)
      have hr : r.toList = vs := by
        refine List.ext_getElem? fun j => ?_
        rw [Array.getElem?_toList]
        have := e3 j
        by_cases hj : j < vs.length
        · rw [if_pos (by omega)] at this; simpa using this
        · rw [if_neg (by omega)] at this
          rw [List.getElem?_eq_none (by omega : vs.length ≤ j)]
          rw [this]
          simp; omega
      by_cases h0 : xs.length = 0
      · have hvs : vs = [] := List.eq_nil_of_length_eq_zero (by omega)
        subst hvs
        refine alloc_of ?_ hob
        simp only [allocA0, ht, hp, h1, hi, hs, Nat.mul_one, h0, Nat.zero_le, if_true, numV, Instr.fill]
        try simp [plains]
      · refine alloc_of ?_ hob
        simp only [allocA0, ht, hp, h1, hi, hs, Nat.mul_one, hn', if_true, h0, if_false, hz]
        simp only [Nat.mul_one] at e1 e2
        rw [e1]
        simp only [e2, Array.size_map, Array.size_range, hz2, hz1, true_and, false_or, ne_eq, Nat.succ_ne_zero, not_false_eq_true, if_true, hr]
        try simp
/-- noughts in a row -/
def zrow (P : Program) (e : TypeId) (n : Nat) : List Value := match zeroC P e with
  | some z => zcells z n
  | none => []
def msR (P : Program) (fb : Option (Blk × (Nat → Value))) (e b : Nat) : Option Value → Option Value → Option (Blk × (Nat → Value))
  | some (.int _ x), some (.int _ y) => if 0 ≤ x ∧ x ≤ y ∧ y ≤ 281474976710656 ∧ (b : Int) * y ≤ 281474976710656 then some (⟨zrow P e y.toNat, e, true⟩, rowTo x.toNat y.toNat) else fb
  | _, _ => fb
theorem msR_int (P : Program) (fb : Option (Blk × (Nat → Value))) (e b : Nat) (k k' : IntKind) (x y : Int) : msR P fb e b (some (.int k x)) (some (.int k' y)) = if 0 ≤ x ∧ x ≤ y ∧ y ≤ 281474976710656 ∧ (b : Int) * y ≤ 281474976710656 then some (⟨zrow P e y.toNat, e, true⟩, rowTo x.toNat y.toNat) else fb := rfl
theorem ms_dense {P : Program} {t e b : Nat} (hk : oneSz P t e b = true) (ev : Operand → Option Value) (l c : Operand) : allocA P ev (.makeSlice t l c) = msR P (allocB P ev (.makeSlice t l c)) e b (ev l) (ev c) := by
  obtain ⟨ht, i, z, hi, hs, hb, hz, hz1, hz2, hob⟩ := oneSz_spec hk
  unfold msR
  split
  · rename_i k x k' y hl hc
    split
    · rename_i h
      have hzr : ∀ n, zrow P e n = zcells z n := fun n => by simp [zrow, hz]
      by_cases h0 : y.toNat = 0
      · refine alloc_of ?_ hob
        simp only [allocA0, ht, hl, hc, hi, hs, hb, Nat.mul_one, h, if_true, h0, and_self, true_or]
        simp [plains, zcells, hzr]
      · refine alloc_of ?_ hob
        simp only [allocA0, ht, hl, hc, hi, hs, hb, Nat.mul_one, h, if_true, h0, if_false, hz, hz1, hz2, and_self, ne_eq, Nat.succ_ne_zero, not_false_eq_true, or_true, hzr]
    · rfl
  · rfl
theorem bx_eq (P : Program) (ev : Operand → Option Value) (t : TypeId) (x : Operand) (hob : isObj t = false := by rfl) : allocA P ev (.box t x) = match ev x with
    | some v => some (⟨v.cells.toList, t, true⟩, ptrTo)
    | none => none := by
  simp only [allocA, allocA0]
  cases ev x with
  | none => rfl
  | some v => simp only [hob, cond_false]
theorem cat0 (l : List Value) : (#[] : Array Value) ++ l.toArray ++ #[] = l.toArray := by simp
theorem Row_.one {M : Mem} {v : Value} {n : Nat} {cells : List Value} (h : Row_ M v n cells) : v.oneCell' = true := by
  rcases h with ⟨_, _, rfl | ⟨_, _, _, rfl⟩⟩ | ⟨_, _, _, _, rfl, _⟩ <;> rfl
theorem Has.put {M : Mem} {i : Nat} (h : i < M.next) (b : Blk) (ho : isObj b.elem = false := by rfl) : Has (M.put i b) i b := ⟨rowsOf_of (by rw [Mem.get_put, if_pos rfl]) ho, by rw [Mem.next_put]; exact h⟩
theorem Has.put' {M : Mem} {i j : Nat} {b : Blk} (h : Has M i b) (hij : i ≠ j) (b' : Blk) : Has (M.put j b') i b := ⟨(rowsOf_same (by rw [Mem.get_put, if_neg hij])).trans h.1, by rw [Mem.next_put]; exact h.2⟩
theorem Own.put {Mb M : Mem} {v : Value} {n : Nat} {cells : List Value} {e : TypeId} (h : Own Mb M v n cells e) {i : Nat} (hi : i < Mb.next) (b : Blk) : Own Mb (M.put i b) v n cells e := by
  rcases h with h | ⟨id, c, blk, h0, h1, h2, h3, h4⟩
  · exact .inl h
  · exact .inr ⟨id, c, blk, h0, by rw [Mem.next_put]; exact h1, h2, by rw [Mem.get_put, if_neg (by omega)]; exact h3, h4⟩
/-- what stands in a row just made -/
theorem Has.content {M : Mem} {i : Nat} {l : List Value} {e : TypeId} {w : Bool} (h : Has M i ⟨l, e, w⟩) (sz n c : Nat) (hl : l.length = n * sz) : contentV M.get sz (.slice (some ⟨i, 0, none⟩) n c) = some (n, l) := (Row_.of h).content hl
theorem binV_shr (P : Program) (t : TypeId) (k k' : IntKind) (a b : Int) : binV P .shr t (.int k a) (.int k' b) = intBin .shr k a b := by simp [binV]
theorem binV_shl (P : Program) (t : TypeId) (k k' : IntKind) (a b : Int) : binV P .shl t (.int k a) (.int k' b) = intBin .shl k a b := by simp [binV]
theorem get_bump' (M : Mem) (k : Nat) : (M.bump k).get = M.get := rfl
theorem isObj_lt {t : Nat} (h : t < 4611686018427387904) : isObj t = false := by
  unfold isObj mapTag
  cases hb : Nat.ble 4611686018427387904 t with
  | false => rfl
  | true => exact absurd (Nat.le_of_ble_eq_true hb) (by omega)
theorem all_nil' : ([] : List Value).all Value.oneCell' = true := rfl
theorem one_int (k : IntKind) (n : Int) : (Value.int k n).oneCell' = true := rfl
theorem one_bool (b : Bool) : (Value.bool b).oneCell' = true := rfl
theorem one_str (s : ByteArray) : (Value.string s).oneCell' = true := rfl
theorem one_slice (a : Option Addr) (n c : Nat) : (Value.slice a n c).oneCell' = true := rfl
attribute [go_sem] isObj_lt get_bump' msR_int binV_shr binV_shl bx_eq cat0 bsR_some all_nil' one_int one_bool one_str one_slice List.all_cons Bool.and_true Bool.true_and Mem.next_put Mem.next_bump Mem.next_del ptrTo rowTo
end Go.Proofs.YtopblipficpilaaGreatDoor.AY
