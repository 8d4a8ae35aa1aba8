/- The layer, twentieth part: calls of functions with a body. -/
import Derived.Test.YthheaehpnleiaaaAxS
namespace Go.Proofs.Ythheaehpnleiaaa.AX
open Go
set_option linter.unusedVariables false
set_option linter.unusedSimpArgs false

/-- the same value, its numbers told anew: 'g' says which number of the run a number stands for -/
inductive RN (g : Nat → Nat) (hi : Nat) : Value → Value → Prop
  | bool (b : Bool) : RN g hi (.bool b) (.bool b)
  | int (k : IntKind) (n : Int) : RN g hi (.int k n) (.int k n)
  | float (k : FloatKind) (b : Nat) : RN g hi (.float k b) (.float k b)
  | complex (k : FloatKind) (a b : Nat) : RN g hi (.complex k a b) (.complex k a b)
  | string (s : ByteArray) : RN g hi (.string s) (.string s)
  | nilp : RN g hi (.pointer none) (.pointer none)
  | ptr {i j o : Nat} (h : i < hi) (hj : j = g i) : RN g hi (.pointer (some ⟨i, o, none⟩)) (.pointer (some ⟨j, o, none⟩))
  | nils : RN g hi (.slice none 0 0) (.slice none 0 0)
  | slice {i j o n c c' : Nat} (h : i < hi) (hj : j = g i) (hc : c = c' ∨ c = unk) : RN g hi (.slice (some ⟨i, o, none⟩) n c) (.slice (some ⟨j, o, none⟩) n c')
  | nilm : RN g hi (.map none) (.map none)
  | nilc : RN g hi (.chan none) (.chan none)
  | nilf : RN g hi .nilFunc .nilFunc
  | func (fn : Fn) {xs ys xs' ys' : Array Value} (hx : xs.size = xs'.size) (hy : ys.size = ys'.size) (h : ∀ (i : Nat) (v v' : Value), xs[i]? = some v → xs'[i]? = some v' → RN g hi v v')
      (h' : ∀ (i : Nat) (v v' : Value), ys[i]? = some v → ys'[i]? = some v' → RN g hi v v') : RN g hi (.func fn xs ys) (.func fn xs' ys')
  | iface (t : TypeId) {v v' : Value} (h : RN g hi v v') : RN g hi (.iface t v) (.iface t v')
  | nili : RN g hi .nilIface .nilIface
  | agg {xs xs' : Array Value} (hx : xs.size = xs'.size) (h : ∀ (i : Nat) (v v' : Value), xs[i]? = some v → xs'[i]? = some v' → RN g hi v v') : RN g hi (.agg xs) (.agg xs')
  | tuple {xs xs' : Array Value} (hx : xs.size = xs'.size) (h : ∀ (i : Nat) (v v' : Value), xs[i]? = some v → xs'[i]? = some v' → RN g hi v v') : RN g hi (.tuple xs) (.tuple xs')

theorem RN.vr {P : Program} {ρ₀ ρ : Emb} {g : Nat → Nat} {hi : Nat} (hg : ∀ i, i < hi → ∀ f, ρ₀ (g i) = some f → ρ i = some f) {v v₀ : Value} (h : RN g hi v v₀) : ∀ {v' : Value}, VR P ρ₀ v₀ v' → VR P ρ v v' := by
  have mid : ∀ {xs xs₀ xs' : Array Value}, xs.size = xs₀.size → xs₀.size = xs'.size → (∀ (i : Nat) (a b : Value), xs[i]? = some a → xs₀[i]? = some b → ∀ {v' : Value}, VR P ρ₀ b v' → VR P ρ a v') →
      (∀ (i : Nat) (a b : Value), xs₀[i]? = some a → xs'[i]? = some b → VR P ρ₀ a b) → ∀ (i : Nat) (a b : Value), xs[i]? = some a → xs'[i]? = some b → VR P ρ a b := by
    intro xs xs₀ xs' h1 h2 h3 h4 i a b ha hb
    have hlt : i < xs₀.size := by have := (Array.getElem?_eq_some_iff.1 ha).1; omega
    have hm : xs₀[i]? = some xs₀[i] := by simp [hlt]
    exact h3 i a _ ha hm (h4 i _ b hm hb)
  induction h with
  | bool b => intro v' h; cases h; exact .bool b
  | int k n => intro v' h; cases h; exact .int k n
  | float k n => intro v' h; cases h; exact .float k n
  | complex k a b => intro v' h; cases h; exact .complex k a b
  | string s => intro v' h; cases h; exact .string s
  | nilp => intro v' h; cases h; exact .nilp
  | ptr h hj => intro v' hv; subst hj; cases hv with | ptr hf => exact .ptr (hg _ h _ hf)
  | nils => intro v' h; cases h; exact .nils
  | slice h hj hc =>
    intro v' hv
    subst hj
    cases hv with
    | slice hf hn hc' hp hr hsp =>
      refine .slice (hg _ h _ hf) hn ?_ ?_ hr hsp
      · rcases hc with rfl | hc
        · exact hc'
        · exact .inr hc
      · intro hcase
        refine hp (hcase.imp (fun h => h) fun ⟨h1, h2⟩ => ?_)
        rcases hc with rfl | hc
        · exact ⟨h1, h2⟩
        · exact absurd hc h1
  | nilm => intro v' h; cases h; exact .nilm
  | nilc => intro v' h; cases h; exact .nilc
  | nilf => intro v' h; cases h; exact .nilf
  | func fn hx hy h h' ih ih' => intro v' hv; cases hv with | func _ a b c d => exact .func fn (hx.trans a) (hy.trans b) (mid hx a ih c) (mid hy b ih' d)
  | iface t h ih => intro v' hv; cases hv with | iface _ h => exact .iface t (ih h)
  | nili => intro v' h; cases h; exact .nili
  | agg hx h ih => intro v' hv; cases hv with | agg a b => exact .agg (hx.trans a) (mid hx a ih b)
  | tuple hx h ih => intro v' hv; cases hv with | tuple a b => exact .tuple (hx.trans a) (mid hx a ih b)

theorem RN.plain {g : Nat → Nat} {hi : Nat} {v : Value} (h : plain v = true) : RN g hi v v := by
  cases v <;> simp [AX.plain] at h <;> try constructor
  case pointer a => cases a <;> simp at h; exact .nilp
  case slice a n c =>
    cases a with
    | some a => simp at h
    | none => cases n <;> cases c <;> simp at h; exact .nils
  case map r => cases r <;> simp at h; exact .nilm
  case chan r => cases r <;> simp at h; exact .nilc

/-- which number of the run a number stands for: the elder ones stay -/
def rn (n0 : Nat) (π : Nat → Nat) (i : Nat) : Nat := if i < n0 then i else π i
inductive RNL (g : Nat → Nat) (hi : Nat) : List Value → List Value → Prop
  | nil : RNL g hi [] []
  | cons {v v' : Value} {l l' : List Value} (h : RN g hi v v') (h' : RNL g hi l l') : RNL g hi (v :: l) (v' :: l')
theorem RNL.at {g : Nat → Nat} {hi : Nat} {l l' : List Value} (h : RNL g hi l l') : ∀ (i : Nat) (v : Value), l[i]? = some v → ∃ v', l'[i]? = some v' ∧ RN g hi v v' := by
  induction h with
  | nil => intro i v hv; simp at hv
  | cons h _ ih =>
    intro i v hv
    cases i with
    | zero => simp at hv; subst hv; exact ⟨_, rfl, h⟩
    | succ i => simp at hv; obtain ⟨v', a, b⟩ := ih i v hv; exact ⟨v', by simpa using a, b⟩
theorem RNL.length {g : Nat → Nat} {hi : Nat} {l l' : List Value} (h : RNL g hi l l') : l.length = l'.length := by induction h <;> simp_all
theorem RNL.plain {g : Nat → Nat} {hi : Nat} {l : List Value} (h : l.all AX.plain = true) : RNL g hi l l := by
  induction l with
  | nil => exact .nil
  | cons v l ih => simp only [List.all_cons, Bool.and_eq_true] at h; exact .cons (RN.plain h.1) (ih h.2)

/-- a value that names elder blocks alone -/
def Old (n : Nat) (v : Value) : Prop := ∀ (g : Nat → Nat) (hi : Nat), n ≤ hi → (∀ i, i < n → g i = i) → RN g hi v v
theorem VR.old {P : Program} {ρ : Emb} {n : Nat} (hf : Free ρ n) {v v' : Value} (h : VR P ρ v v') : Old n v := by
  have hlt : ∀ i f, ρ i = some f → i < n := fun i f h => by
    rcases Nat.lt_or_ge i n with h' | h'
    · exact h'
    · rw [hf i h'] at h; cases h
  have arr : ∀ {xs xs' : Array Value}, xs.size = xs'.size → (∀ (i : Nat) (a b : Value), xs[i]? = some a → xs'[i]? = some b → Old n a) → ∀ (g : Nat → Nat) (hi : Nat), n ≤ hi → (∀ i, i < n → g i = i) → ∀ (i : Nat) (a b : Value), xs[i]? = some a → xs[i]? = some b → RN g hi a b := by
    intro xs xs' hs hh g hi h1 h2 i a b ha hb
    rw [ha] at hb; cases hb
    have hl : i < xs'.size := by have := (Array.getElem?_eq_some_iff.1 ha).1; omega
    exact hh i a xs'[i] ha (by simp [hl]) g hi h1 h2
  induction h with
  | bool b => exact fun g hi _ _ => .bool b
  | int k n => exact fun g hi _ _ => .int k n
  | float k n => exact fun g hi _ _ => .float k n
  | complex k a b => exact fun g hi _ _ => .complex k a b
  | string s => exact fun g hi _ _ => .string s
  | nilp => exact fun g hi _ _ => .nilp
  | ptr h => exact fun g hi h1 h2 => .ptr (Nat.lt_of_lt_of_le (hlt _ _ h) h1) (h2 _ (hlt _ _ h)).symm
  | nils => exact fun g hi _ _ => .nils
  | slice h hn hc hp hr hsp => exact fun g hi h1 h2 => .slice (Nat.lt_of_lt_of_le (hlt _ _ h) h1) (h2 _ (hlt _ _ h)).symm (.inl rfl)
  | nilm => exact fun g hi _ _ => .nilm
  | nilc => exact fun g hi _ _ => .nilc
  | nilf => exact fun g hi _ _ => .nilf
  | func fn hx hy _ _ ih ih' => exact fun g hi h1 h2 => .func fn rfl rfl (arr hx ih g hi h1 h2) (arr hy ih' g hi h1 h2)
  | iface t _ ih => exact fun g hi h1 h2 => .iface t (ih g hi h1 h2)
  | nili => exact fun g hi _ _ => .nili
  | agg hx _ ih => exact fun g hi h1 h2 => .agg rfl (arr hx ih g hi h1 h2)
  | tuple hx _ ih => exact fun g hi h1 h2 => .tuple rfl (arr hx ih g hi h1 h2)

/-- what a run came to, told anew -/
structure Settles (M : Mem) (r0 : Value) (M0 : Mem) (r : Value) (M' : Mem) (π : Nat → Nat) : Prop where
  next : M.next ≤ M'.next
  ge : ∀ i, M.next ≤ i → i < M'.next → M.next ≤ π i
  inj : ∀ i j, M.next ≤ i → i < M'.next → M.next ≤ j → j < M'.next → π i = π j → i = j
  val : RN (rn M.next π) M'.next r r0
  mem : ∀ i b, M'.get i = some b → (M.get i = some b ∧ M0.get i = some b) ∨
    (i < M'.next ∧ ∃ b0, M0.get (rn M.next π i) = some b0 ∧ b.elem = b0.elem ∧ (b.rw = true → b0.rw = true) ∧ RNL (rn M.next π) M'.next b.cells b0.cells)

/-- what is known of a memory, and of a call's arguments, ahead of the call -/
structure Wf (M : Mem) (args : List Value) : Prop where
  lt : ∀ i b, M.get i = some b → i < M.next
  old : ∀ i b v, M.get i = some b → v ∈ b.cells → Old M.next v
  arg : ∀ v, v ∈ args → Old M.next v
theorem wf_of {P : Program} {ρ : Emb} {M : Mem} {w : World} {args : List Value} {args' : Array Value} (ha : VRs P ρ args.toArray args') (hr : HR P ρ M.get w) (hf : Free ρ M.next) : Wf M args where
  lt := fun i b hi => by
    obtain ⟨f, h1, _⟩ := hr.one i b hi
    rcases Nat.lt_or_ge i M.next with h | h
    · exact h
    · rw [hf i h] at h1; cases h1
  old := fun i b v hi hv => by
    obtain ⟨f, h1, ho⟩ := hr.one i b hi
    obtain ⟨cs, el, fz, _, _, _, h4⟩ := ho.row
    obtain ⟨o, hlt, he⟩ := List.getElem_of_mem hv
    obtain ⟨v', _, h5⟩ := h4 o v (by rw [List.getElem?_eq_getElem hlt, he])
    exact h5.old hf
  arg := fun v hv => by
    obtain ⟨o, hlt, he⟩ := List.getElem_of_mem hv
    obtain ⟨v', _, h5⟩ := ha.get (i := o) (v := v) (by simp [hlt, he])
    exact h5.old hf

theorem rnl_old {g : Nat → Nat} {hi n : Nat} (h1 : n ≤ hi) (h2 : ∀ i, i < n → g i = i) {l : List Value} (h : ∀ v, v ∈ l → Old n v) : RNL g hi l l := by
  induction l with
  | nil => exact .nil
  | cons v l ih => exact .cons (h v (by simp) g hi h1 h2) (ih fun u hu => h u (by simp [hu]))
theorem rn_old {n : Nat} {π : Nat → Nat} (i : Nat) (h : i < n) : rn n π i = i := by simp [rn, h]

theorem settle {P : Program} {ρ ρ₀ : Emb} {M M₀ M' : Mem} {w w' : World} {r0 r r' : Value} {π : Nat → Nat} (hr : HR P ρ M.get w) (hf : Free ρ M.next) (hs : Settles M r0 M₀ r M' π)
    (hv : VR P ρ₀ r0 r') (hr0 : HR P ρ₀ M₀.get w') (hg : Grow ρ M w ρ₀ M₀ w') : ∃ ρ', VR P ρ' r r' ∧ HR P ρ' M'.get w' ∧ Free ρ' M'.next ∧ Grow ρ M w ρ' M' w' := by
  have hwf : Wf M [] := wf_of (args' := #[]) ⟨rfl, fun i v v' h => by simp at h⟩ hr hf
  have hmem : ∀ i b, M'.get i = some b → i < M'.next ∧ ∃ b0, M₀.get (rn M.next π i) = some b0 ∧ b.elem = b0.elem ∧ (b.rw = true → b0.rw = true) ∧ RNL (rn M.next π) M'.next b.cells b0.cells := fun i b hi => by
    rcases hs.mem i b hi with ⟨h1, h2⟩ | h
    · have hlt := hwf.lt i b h1
      exact ⟨Nat.lt_of_lt_of_le hlt hs.next, b, by rw [rn_old i hlt]; exact h2, rfl, fun h => h, rnl_old hs.next rn_old fun v hv => hwf.old i b v h1 hv⟩
    · exact h
  let ρ' : Emb := fun i => if i < M'.next then ρ₀ (rn M.next π i) else none
  have hρ : ∀ i, i < M'.next → ρ' i = ρ₀ (rn M.next π i) := fun i hi => by simp [ρ', hi]
  have hold : ∀ i, i < M.next → ρ' i = ρ₀ i := fun i hi => by
    have : i < M'.next := Nat.lt_of_lt_of_le hi hs.next
    simp [ρ', this, rn, hi]
  have hlt : ∀ i f, ρ i = some f → i < M.next := fun i f h => by
    rcases Nat.lt_or_ge i M.next with h' | h'
    · exact h'
    · rw [hf i h'] at h; cases h
  have hrn : ∀ i j, i < M'.next → j < M'.next → rn M.next π i = rn M.next π j → i = j := by
    intro i j hi hj he
    unfold rn at he
    split at he <;> split at he
    · exact he
    · have := hs.ge j (by omega) hj; omega
    · have := hs.ge i (by omega) hi; omega
    · exact hs.inj i j (by omega) hi (by omega) hj he
  have hval : ∀ {v v₀ v' : Value}, RN (rn M.next π) M'.next v v₀ → VR P ρ₀ v₀ v' → VR P ρ' v v' := fun h h' => h.vr (fun i hi f hf => by rw [hρ i hi]; exact hf) h'
  refine ⟨ρ', hval hs.val hv, ⟨fun i b hi => ?_, fun i j bi bj fi fj hij hi hj hrw hfi hfj => ?_⟩, fun i hi => by simp [ρ']; omega, ⟨⟨fun i f h => ?_, hg.ext.size, hg.ext.heap, fun i f h h' => ?_, fun i b' hi => ?_, hg.ext.io⟩, fun i hi hn => ?_, hs.next⟩⟩
  · obtain ⟨h1, b0, h2, h3, h4, h5⟩ := hmem i b hi
    obtain ⟨f, hf', ho⟩ := hr0.one _ b0 h2
    refine ⟨f, by rw [hρ i h1]; exact hf', ?_⟩
    obtain ⟨cs, el, fz, g1, g2, g3, g4⟩ := ho.row
    exact ⟨ho.elem.trans h3.symm, by rw [h5.length]; exact ho.room, cs, el, fz, g1, g2, fun h => g3 (h4 h), fun o v hv => by
      obtain ⟨v₀, e1, e2⟩ := h5.at o v hv
      obtain ⟨v', e3, e4⟩ := g4 o v₀ e1
      exact ⟨v', e3, hval e2 e4⟩⟩
  · obtain ⟨h1, b0, h2, _, h4, _⟩ := hmem i bi hi
    obtain ⟨h1', b0', h2', _, _, _⟩ := hmem j bj hj
    rw [hρ i h1] at hfi
    rw [hρ j h1'] at hfj
    exact hr0.apart _ _ b0 b0' fi fj (fun h => hij (hrn i j h1 h1' h)) h2 h2' (h4 hrw) hfi hfj
  · rw [hold i (hlt i f h)]; exact hg.ext.sub i f h
  · have hi : i < M'.next := by
      rcases Nat.lt_or_ge i M'.next with h2 | h2
      · exact h2
      · have : ρ' i = none := by simp [ρ']; omega
        rw [this] at h'; cases h'
    rw [hρ i hi] at h'
    unfold rn at h'
    split at h'
    · exact hg.ext.new i f h h'
    · exact hg.ext.new _ f (hf _ (hs.ge i (by omega) hi)) h'
  · obtain ⟨h1, b0, h2, _, h4, _⟩ := hmem i b' hi
    by_cases hi' : i < M.next
    · rw [show rn M.next π i = i by simp [rn, hi']] at h2
      exact (hg.ext.ids i b0 h2).imp (fun ⟨b, hb, hk⟩ => ⟨b, hb, fun h => hk (h4 h)⟩) fun h => h
    · exact .inr (hf i (by omega))
  · rw [hold i hi]; exact hg.keep i hi hn

/-! ### results and bodies -/
def resV (P : Program) (s : St) : List ResultVar → Option (List Value)
  | [] => some []
  | .tmp t :: l => match s.env.get t, resV P s l with
    | some v, some vs => some (v :: vs)
    | _, _ => none
  | .cell a t :: l => match s.env.get a with
    | some x => match loadV P s.mem.get t x, resV P s l with
      | some v, some vs => some (v :: vs)
      | _, _ => none
    | none => none
def retV (P : Program) (rs : List ResultVar) (s : St) : Option Value := match resV P s rs with
  | some [v] => some v
  | some vs => some (.tuple vs.toArray)
  | none => none

theorem run_resV {P : Program} {k : Nat} {ρ : Emb} {s : St} {a : Act} {w : World} (hc : Cur P k ρ s a w) : ∀ {l : List ResultVar} {vs : List Value}, resV P s l = some vs →
    ∃ vs', (l.mapM (m := Sem) fun | .tmp t => pure (a.tmps.getD t undef) | .cell c t => do loadVar t (← asAddr (a.tmps.getD c undef))).run P w = .ok vs' w ∧ VL P ρ vs vs' := by
  intro l
  induction l with
  | nil => intro vs h; simp only [resV, Option.some.injEq] at h; subst h; exact ⟨[], by simp, .nil⟩
  | cons r l ih =>
    intro vs h
    cases r with
    | tmp t =>
      simp only [resV] at h
      split at h
      · rename_i v us h1 h2
        cases h
        obtain ⟨v', e1, e2⟩ := hc.er t v h1
        obtain ⟨us', e3, e4⟩ := ih h2
        refine ⟨v' :: us', ?_, .cons e2 e4⟩
        rw [List.mapM_cons]
        simp only [Sem.run_bind, Sem.run_pure, Result.andThen_ok]
        rw [e3]
        simp [e1]
      · cases h
    | cell c t =>
      simp only [resV] at h
      split at h
      · rename_i x h0
        split at h
        · rename_i v us h1 h2
          cases h
          obtain ⟨x', e1, e2⟩ := hc.er c x h0
          obtain ⟨ad, v', g1, g2, g3⟩ := run_loadVar (w := w) h1 e2 hc.hr
          obtain ⟨us', e3, e4⟩ := ih h2
          refine ⟨v' :: us', ?_, .cons g3 e4⟩
          rw [List.mapM_cons]
          have hx : a.tmps.getD c undef = .pointer (some ad) := by rw [← g1]; simp [e1]
          have hx2 : (asAddr (a.tmps.getD c undef)).run P w = .ok ad w := by rw [hx]; rfl
          simp only [Sem.run_bind, hx2, Sem.run_pure, Result.andThen_ok, g2]
          rw [e3]; rfl
        · cases h
      · cases h
theorem run_retV {P : Program} {k : Nat} {ρ : Emb} {s : St} {a : Act} {w : World} (hc : Cur P k ρ s a w) {fn : Func} {v : Value} (h : retV P fn.results.toList s = some v) :
    ∃ v', (results fn a.tmps).run P w = .ok v' w ∧ VR P ρ v v' := by
  unfold retV at h
  have key : ∀ vs, resV P s fn.results.toList = some vs → ∃ vs', (results fn a.tmps).run P w = .ok (if h : vs'.toArray.size = 1 then vs'.toArray[0] else .tuple vs'.toArray) w ∧ VL P ρ vs vs' := by
    intro vs hvs
    obtain ⟨vs', h1, h2⟩ := run_resV hc hvs
    refine ⟨vs', ?_, h2⟩
    unfold results
    rw [Array.mapM_eq_mapM_toList]
    simp only [Sem.run_bind, Sem.run_map]
    generalize hm : Sem.run P (List.mapM (m := Sem) _ fn.results.toList) w = res
    have : res = .ok vs' w := by rw [← hm]; exact h1
    subst this
    rfl
  split at h
  · rename_i u hu
    cases h
    obtain ⟨vs', h1, h2⟩ := key _ hu
    cases h2 with
    | cons h2 h3 => cases h3; exact ⟨_, h1, h2⟩
  · rename_i vs hn hu
    cases h
    obtain ⟨vs', h1, h2⟩ := key _ hu
    have hl := h2.length
    refine ⟨.tuple vs'.toArray, ?_, .tuple h2.vrs.1 h2.vrs.2⟩
    rw [h1, dif_neg]
    intro h
    have : vs.length = 1 := by simp at h; omega
    match vs, this with
    | [x], _ => exact hn x rfl
  · cases h

def argEnv : Nat → List Value → Env
  | _, [] => []
  | i, v :: l => (i, v) :: argEnv (i + 1) l
theorem argEnv_get {l : List Value} : ∀ {i t : Nat} {v : Value}, (argEnv i l).get t = some v → i ≤ t ∧ l[t - i]? = some v := by
  induction l with
  | nil => intro i t v h; simp [argEnv, Env.get] at h
  | cons u l ih =>
    intro i t v h
    simp only [argEnv, Env.get, beq_iff, Bool.cond_decide] at h
    by_cases hit : i = t
    · subst hit; simp only [if_true, Option.some.injEq] at h; subst h; simp
    · simp only [hit, if_false] at h
      obtain ⟨h1, h2⟩ := ih h
      refine ⟨by omega, ?_⟩
      rw [show t - i = (t - (i + 1)) + 1 by omega, List.getElem?_cons_succ]; exact h2

theorem ACall.body {P : Program} {f : FuncId} {fn : Func} {c : Code} {k : Nat} {rs : List ResultVar} {args : List Value} {M M' : Mem} {r : Value} (hf : P.funcs[f]? = some fn) (hb : fn.body = some c) (hkk : fn.ntmps = k) (hrs : fn.results.toList = rs) (hk : args.length ≤ k)
    (h : Wf M args → AWP P k c ⟨argEnv 0 args, M⟩ fun e s' => (e = .normal ∨ e = .ret) ∧ ∃ r0 π, retV P rs s' = some r0 ∧ Settles M r0 s'.mem r M' π) : ACall P f args.toArray M r M' := by
  subst hkk hrs
  intro ρ w args' ha hr hfr
  obtain ⟨e, s', hrun, he, r0, π, hret, hset⟩ := h (wf_of ha hr hfr)
  have hsz : args'.size = args.length := by have := ha.1; simp at this; omega
  have hcur : Cur P fn.ntmps ρ ⟨argEnv 0 args, M⟩ { tmps := args' ++ Array.replicate (fn.ntmps - args'.size) undef, defers := [] } w := by
    refine ⟨fun t v ht => ?_, hr, hfr, rfl, by simp; omega⟩
    obtain ⟨_, h2⟩ := argEnv_get ht
    simp at h2
    obtain ⟨v', h3, h4⟩ := ha.get (i := t) (by simpa using h2)
    have hlt := (Array.getElem?_eq_some_iff.1 h3).1
    exact ⟨v', by rw [Array.getElem?_append_left hlt]; exact h3, h4⟩
  refine calls_of_wp hf hb (wp_mono (hrun ρ _ w hcur) ?_)
  rintro x a' w' ⟨rfl, ρ₀, hc', hg⟩
  · obtain ⟨r', e1, e2⟩ := run_retV hc' hret
    obtain ⟨ρ', g1, g2, g3, g4⟩ := settle hr hfr hset e2 hc'.hr hg
    have hfin : a'.defers = [] ∧ ∃ v, (results fn a'.tmps).run P w' = .ok v w' ∧ (∃ r' ρ', Ending.returned v = .returned r' ∧ VR P ρ' r r' ∧ HR P ρ' M'.get w' ∧ Free ρ' M'.next ∧ Grow ρ M w ρ' M' w') :=
      ⟨hc'.defers, r', e1, ⟨r', ρ', rfl, g1, g2, g3, g4⟩⟩
    rcases he with rfl | rfl
    · exact hfin
    · exact hfin
end Go.Proofs.Ythheaehpnleiaaa.AX
