/- The layer, second part: memories as tries, environments, runs of code, calls; the rules for code. -/
import Derived.Test.YthheaehpnleiaaaAxA
namespace Go.Proofs.Ythheaehpnleiaaa.AX
open Go
set_option linter.unusedVariables false
set_option linter.unusedSimpArgs false

inductive Tri where
  | nil
  | node (l : Tri) (v : Option Blk) (r : Tri)

def Tri.get : Tri → Nat → Option Blk
  | .nil, _ => none
  | .node l v r, k => bif Nat.beq k 0 then v else bif Nat.beq (k % 2) 1 then l.get (k / 2) else r.get (k / 2 - 1)

def Tri.set : Nat → Tri → Nat → Option Blk → Tri
  | 0, t, _, _ => t
  | f + 1, .nil, k, b => bif Nat.beq k 0 then .node .nil b .nil else bif Nat.beq (k % 2) 1 then .node (Tri.set f .nil (k / 2) b) none .nil else .node .nil none (Tri.set f .nil (k / 2 - 1) b)
  | f + 1, .node l v r, k, b => bif Nat.beq k 0 then .node l b r else bif Nat.beq (k % 2) 1 then .node (Tri.set f l (k / 2) b) v r else .node l v (Tri.set f r (k / 2 - 1) b)

theorem beq_iff (a b : Nat) : Nat.beq a b = decide (a = b) := by
  by_cases h : a = b
  · simp [h]
  · cases hh : Nat.beq a b with
    | false => simp [h]
    | true => exact absurd (Nat.eq_of_beq_eq_true hh) h

theorem Tri.get_set : ∀ (f : Nat) (t : Tri) (k j : Nat) (b : Option Blk), k < f → (Tri.set f t k b).get j = if j = k then b else t.get j := by
  intro f
  induction f with
  | zero => intro t k j b h; omega
  | succ f ih =>
    intro t k j b h
    have hk2 : k ≠ 0 → k / 2 < f := fun h0 => by omega
    have hk3 : k ≠ 0 → k / 2 - 1 < f := fun h0 => by omega
    cases t with
    | nil =>
      simp only [Tri.set, beq_iff, Bool.cond_decide]
      by_cases h0 : k = 0
      · simp only [h0, if_true, Tri.get, beq_iff, Bool.cond_decide]
        by_cases hj : j = 0 <;> simp [hj]
      · simp only [h0, if_false]
        by_cases h1 : k % 2 = 1
        · simp only [h1, if_true, Tri.get, beq_iff, Bool.cond_decide]
          by_cases hj : j = 0
          · simp [hj, Ne.symm h0]
          · by_cases hj1 : j % 2 = 1
            · simp only [hj, hj1, if_false, if_true]
              rw [ih _ _ _ _ (hk2 h0)]
              have : (j / 2 = k / 2) ↔ j = k := by omega
              simp [this, Tri.get]
            · have : j ≠ k := by rintro rfl; exact hj1 h1
              simp [hj, hj1, this]
        · simp only [h1, if_false, Tri.get, beq_iff, Bool.cond_decide]
          by_cases hj : j = 0
          · simp [hj, Ne.symm h0]
          · by_cases hj1 : j % 2 = 1
            · have : j ≠ k := by rintro rfl; exact h1 hj1
              simp [hj, hj1, this]
            · simp only [hj, hj1, if_false]
              rw [ih _ _ _ _ (hk3 h0)]
              have : (j / 2 - 1 = k / 2 - 1) ↔ j = k := by omega
              simp [this, Tri.get]
    | node l v r =>
      simp only [Tri.set, beq_iff, Bool.cond_decide]
      by_cases h0 : k = 0
      · simp only [h0, if_true, Tri.get, beq_iff, Bool.cond_decide]
        by_cases hj : j = 0 <;> simp [hj]
      · simp only [h0, if_false]
        by_cases h1 : k % 2 = 1
        · simp only [h1, if_true, Tri.get, beq_iff, Bool.cond_decide]
          by_cases hj : j = 0
          · simp [hj, Ne.symm h0]
          · by_cases hj1 : j % 2 = 1
            · simp only [hj, hj1, if_false, if_true]
              rw [ih _ _ _ _ (hk2 h0)]
              have : (j / 2 = k / 2) ↔ j = k := by omega
              simp [this]
            · have : j ≠ k := by rintro rfl; exact hj1 h1
              simp [hj, hj1, this]
        · simp only [h1, if_false, Tri.get, beq_iff, Bool.cond_decide]
          by_cases hj : j = 0
          · simp [hj, Ne.symm h0]
          · by_cases hj1 : j % 2 = 1
            · have : j ≠ k := by rintro rfl; exact h1 hj1
              simp [hj, hj1, this]
            · simp only [hj, hj1, if_false]
              rw [ih _ _ _ _ (hk3 h0)]
              have : (j / 2 - 1 = k / 2 - 1) ↔ j = k := by omega
              simp [this]

structure Mem where
  next : Nat
  tri : Tri

def Mem.get (M : Mem) : Mm := fun i => M.tri.get i
def Mem.put (M : Mem) (i : Nat) (b : Blk) : Mem := { M with tri := M.tri.set (i + 1) i (some b) }
def Mem.del (M : Mem) (i : Nat) : Mem := { M with tri := M.tri.set (i + 1) i none }
def Mem.bump (M : Mem) (k : Nat) : Mem := { M with next := M.next + k }

theorem Mem.get_put (M : Mem) (i j : Nat) (b : Blk) : (M.put i b).get j = if j = i then some b else M.get j := Tri.get_set _ _ _ _ _ (Nat.lt_succ_self i)
theorem Mem.get_del (M : Mem) (i j : Nat) : (M.del i).get j = if j = i then none else M.get j := Tri.get_set _ _ _ _ _ (Nat.lt_succ_self i)
theorem Mem.get_bump (M : Mem) (k j : Nat) : (M.bump k).get j = M.get j := rfl
theorem Mem.next_put (M : Mem) (i : Nat) (b : Blk) : (M.put i b).next = M.next := rfl
theorem Mem.next_del (M : Mem) (i : Nat) : (M.del i).next = M.next := rfl
theorem Mem.next_bump (M : Mem) (k : Nat) : (M.bump k).next = M.next + k := rfl

/-- what the temporaries are known to hold -/
abbrev Env := List (Nat × Value)
def Env.get : Env → Nat → Option Value
  | [], _ => none
  | (s, v) :: e, t => bif Nat.beq s t then some v else Env.get e t
def Env.del : Env → Nat → Env
  | [], _ => []
  | (s, v) :: e, t => bif Nat.beq s t then Env.del e t else (s, v) :: Env.del e t
def Env.set (e : Env) (t : Nat) (v : Value) : Env := (t, v) :: Env.del e t
def Env.put (e : Env) (t : Option Nat) (v : Value) : Env := match t with | some t => e.set t v | none => e
/-- only what these temporaries hold -/
def Env.keep (e : Env) : List Nat → Env
  | [] => []
  | t :: l => match e.get t with | some v => (t, v) :: Env.keep e l | none => Env.keep e l

theorem Env.get_del (e : Env) (t s : Nat) : (e.del t).get s = if s = t then none else e.get s := by
  induction e with
  | nil => simp [Env.del, Env.get]
  | cons x e ih =>
    obtain ⟨u, v⟩ := x
    simp only [Env.del, Env.get, beq_iff, Bool.cond_decide]
    by_cases h : u = t
    · simp only [h, if_true, ih]
      by_cases hs : s = t
      · simp [hs]
      · simp [hs, Ne.symm hs]
    · simp only [h, if_false, Env.get, beq_iff, Bool.cond_decide, ih]
      by_cases hs : u = s
      · have : s ≠ t := by rintro rfl; exact h hs
        simp [hs, this]
      · simp [hs]
theorem Env.get_set (e : Env) (t s : Nat) (v : Value) : (e.set t v).get s = if s = t then some v else e.get s := by
  simp only [Env.set, Env.get, beq_iff, Bool.cond_decide, Env.get_del]
  by_cases h : s = t
  · simp [h]
  · simp [h, Ne.symm h]
theorem Env.get_put (e : Env) (t : Option Nat) (s : Nat) (v : Value) : (e.put t v).get s = if t = some s then some v else e.get s := by
  cases t with
  | none => simp [Env.put]
  | some t =>
    simp only [Env.put, Env.get_set, Option.some.injEq]
    by_cases h : s = t
    · simp [h]
    · simp [h, Ne.symm h]
theorem Env.get_keep (e : Env) (l : List Nat) (s : Nat) (v : Value) (h : (e.keep l).get s = some v) : e.get s = some v := by
  induction l with
  | nil => simp [Env.keep, Env.get] at h
  | cons t l ih =>
    unfold Env.keep at h
    cases ht : e.get t with
    | none => rw [ht] at h; exact ih h
    | some u =>
      rw [ht] at h
      simp only [Env.get, beq_iff, Bool.cond_decide] at h
      by_cases hts : t = s
      · simp only [hts, if_true] at h; subst hts; rw [ht]; exact h
      · simp only [hts, if_false] at h; exact ih h

structure St where
  env : Env
  mem : Mem

def ER (P : Program) (ρ : Emb) (e : Env) (tmps : Array Value) : Prop := ∀ t v, e.get t = some v → ∃ v', tmps[t]? = some v' ∧ VR P ρ v v'
theorem ER.mono {P : Program} {ρ ρ' : Emb} {e : Env} {tm : Array Value} (h : ER P ρ e tm) (hs : Sub ρ ρ') : ER P ρ' e tm :=
  fun t v ht => let ⟨v', a, b⟩ := h t v ht; ⟨v', a, b.mono hs⟩
theorem ER.less {P : Program} {ρ : Emb} {e e' : Env} {tm : Array Value} (h : ER P ρ e tm) (hs : ∀ t v, e'.get t = some v → e.get t = some v) : ER P ρ e' tm :=
  fun t v ht => h t v (hs t v ht)
theorem ER.put {P : Program} {ρ : Emb} {e : Env} {a : Act} (h : ER P ρ e a.tmps) {d : Option Nat} {v v' : Value} (hd : ∀ t, d = some t → t < a.tmps.size) (hv : VR P ρ v v') :
    ER P ρ (e.put d v) (a.put d v').tmps := by
  intro t u ht
  rw [Env.get_put] at ht
  cases d with
  | none => simp at ht; exact h t u ht
  | some d =>
    have hlt := hd d rfl
    simp only [Option.some.injEq] at ht
    by_cases hdt : d = t
    · subst hdt
      simp only [if_true, Option.some.injEq] at ht; subst ht
      exact ⟨v', by simp [Act.put, hlt], hv⟩
    · simp only [hdt, if_false] at ht
      obtain ⟨u', h1, h2⟩ := h t u ht
      exact ⟨u', by simp [Act.put, Array.getElem?_setIfInBounds_ne hdt, h1], h2⟩

structure Cur (P : Program) (k : Nat) (ρ : Emb) (s : St) (a : Act) (w : World) : Prop where
  er : ER P ρ s.env a.tmps
  hr : HR P ρ s.mem.get w
  free : Free ρ s.mem.next
  defers : a.defers = []
  size : a.tmps.size = k

structure Grow (ρ : Emb) (M : Mem) (w : World) (ρ' : Emb) (M' : Mem) (w' : World) : Prop where
  ext : Ext ρ M.get w ρ' M'.get w'
  keep : ∀ i, i < M.next → ρ i = none → ρ' i = none
  next : M.next ≤ M'.next

theorem Grow.refl (ρ : Emb) (M : Mem) (w : World) : Grow ρ M w ρ M w := ⟨Ext.refl _ _ _, fun _ _ h => h, Nat.le_refl _⟩
theorem Grow.trans {P : Program} {ρ ρ₁ ρ₂ : Emb} {M M₁ M₂ : Mem} {w w₁ w₂ : World} (hr : HR P ρ M.get w) (h : Grow ρ M w ρ₁ M₁ w₁) (h' : Grow ρ₁ M₁ w₁ ρ₂ M₂ w₂) :
    Grow ρ M w ρ₂ M₂ w₂ :=
  ⟨h.ext.trans hr h'.ext, fun i hi hn => h'.keep i (Nat.lt_of_lt_of_le hi h.next) (h.keep i hi hn), Nat.le_trans h.next h'.next⟩

def Post (P : Program) (k : Nat) (ρ : Emb) (M : Mem) (w : World) (e : Exit) (s' : St) : Exit → Act → World → Prop := fun x a' w' =>
  x = e ∧ ∃ ρ', Cur P k ρ' s' a' w' ∧ Grow ρ M w ρ' s'.mem w'

/-- code comes from one state to another one, by this exit -/
def ARun (P : Program) (k : Nat) (c : Code) (s : St) (e : Exit) (s' : St) : Prop :=
  ∀ ρ a w, Cur P k ρ s a w → c.wp P (Post P k ρ s.mem w e s') a w

def AWP (P : Program) (k : Nat) (c : Code) (s : St) (Q : Exit → St → Prop) : Prop := ∃ e s', ARun P k c s e s' ∧ Q e s'

/-- a call comes to this result and this memory -/
def ACall (P : Program) (f : FuncId) (args : Array Value) (M : Mem) (r : Value) (M' : Mem) : Prop :=
  ∀ ρ w args', VRs P ρ args args' → HR P ρ M.get w → Free ρ M.next →
    Calls P f args' w fun e w' => ∃ r' ρ', e = .returned r' ∧ VR P ρ' r r' ∧ HR P ρ' M'.get w' ∧ Free ρ' M'.next ∧ Grow ρ M w ρ' M' w'

theorem AWP.mono {P : Program} {k : Nat} {c : Code} {s : St} {Q Q' : Exit → St → Prop} (h : AWP P k c s Q) (hq : ∀ e s', Q e s' → Q' e s') : AWP P k c s Q' :=
  let ⟨e, s', hr, hQ⟩ := h; ⟨e, s', hr, hq e s' hQ⟩

/-- less may be known -/
theorem Cur.less {P : Program} {k : Nat} {ρ : Emb} {s s' : St} {a : Act} {w : World} (h : Cur P k ρ s a w) (he : ∀ t v, s'.env.get t = some v → s.env.get t = some v)
    (hm : ∀ i b, s'.mem.get i = some b → s.mem.get i = some b) (hn : s'.mem.next = s.mem.next) : Cur P k ρ s' a w :=
  ⟨h.er.less he, h.hr.within hm, hn ▸ h.free, h.defers, h.size⟩
theorem Ext.less {ρ ρ' : Emb} {m n m' : Mm} {w w' : World} (hs : Within m n) (he : Ext ρ m w ρ' m' w') : Ext ρ n w ρ' m' w' :=
  ⟨he.sub, he.size, fun B hB hw => he.heap B hB fun ⟨i, b, f, hi, h⟩ => hw ⟨i, b, f, hs i b hi, h⟩,
    fun i f hi hf => (he.new i f hi hf).imp id fun ⟨j, b, g, hj, h⟩ => ⟨j, b, g, hs j b hj, h⟩,
    fun i b' hi => (he.ids i b' hi).imp (fun ⟨b, hb, hk⟩ => ⟨b, hs i b hb, hk⟩) id, he.io⟩
theorem Ext.less' {ρ ρ' : Emb} {m m' n' : Mm} {w w' : World} (hs : Within n' m') (he : Ext ρ m w ρ' m' w') : Ext ρ m w ρ' n' w' :=
  ⟨he.sub, he.size, he.heap, he.new, fun i b' hi => he.ids i b' (hs i b' hi), he.io⟩

theorem AWP.less {P : Program} {k : Nat} {c : Code} {s s₁ : St} {Q : Exit → St → Prop} (h : AWP P k c s₁ Q) (he : ∀ t v, s₁.env.get t = some v → s.env.get t = some v)
    (hm : ∀ i b, s₁.mem.get i = some b → s.mem.get i = some b) (hn : s₁.mem.next = s.mem.next) : AWP P k c s Q := by
  obtain ⟨e, s', hr, hQ⟩ := h
  refine ⟨e, s', fun ρ a w hc => wp_mono (hr ρ a w (hc.less he hm hn)) ?_, hQ⟩
  rintro x a' w' ⟨rfl, ρ', hc', hg⟩
  · exact ⟨rfl, ρ', hc', hg.ext.less hm, fun i hi => hg.keep i (by omega), by have := hg.next; omega⟩

theorem AWP.keep {P : Program} {k : Nat} {c : Code} {s : St} {Q : Exit → St → Prop} (l : List Nat) (h : AWP P k c ⟨s.env.keep l, s.mem⟩ Q) : AWP P k c s Q :=
  h.less (fun t v ht => Env.get_keep _ _ _ _ ht) (fun _ _ h => h) rfl

theorem ARun.skip {P : Program} {k : Nat} {s : St} : ARun P k .skip s .normal s := fun ρ a w hc => wp_skip ⟨rfl, ρ, hc, Grow.refl _ _ _⟩
theorem ARun.label {P : Program} {k : Nat} {l : Nat} {s : St} : ARun P k (.label l) s .normal s := fun ρ a w hc => wp_label ⟨rfl, ρ, hc, Grow.refl _ _ _⟩
theorem ARun.exit {P : Program} {k id : Nat} {s : St} : ARun P k (.exit id) s (.exit id) s := fun ρ a w hc => wp_exit ⟨rfl, ρ, hc, Grow.refl _ _ _⟩
theorem ARun.ret {P : Program} {k : Nat} {s : St} : ARun P k .ret s .ret s := fun ρ a w hc => wp_ret ⟨rfl, ρ, hc, Grow.refl _ _ _⟩

theorem Post.trans {P : Program} {k : Nat} {ρ ρ₁ : Emb} {M M₁ : Mem} {w w₁ : World} (hr : HR P ρ M.get w) (hg : Grow ρ M w ρ₁ M₁ w₁) {e : Exit} {s' : St} {x : Exit} {a' : Act} {w' : World}
    (h : Post P k ρ₁ M₁ w₁ e s' x a' w') : Post P k ρ M w e s' x a' w' := by
  obtain ⟨rfl, ρ', hc', hg'⟩ := h
  · exact ⟨rfl, ρ', hc', hg.trans hr hg'⟩

theorem ARun.seq {P : Program} {k : Nat} {c d : Code} {s s₁ s₂ : St} {e : Exit} (h : ARun P k c s .normal s₁) (h' : ARun P k d s₁ e s₂) : ARun P k (.seq c d) s e s₂ := by
  intro ρ a w hc
  refine wp_seq (wp_mono (h ρ a w hc) ?_)
  rintro x a' w' ⟨rfl, ρ', hc', hg⟩
  · exact wp_mono (h' ρ' a' w' hc') fun x a'' w'' hp => hp.trans hc.hr hg
theorem ARun.seq_out {P : Program} {k : Nat} {c d : Code} {s s₁ : St} {e : Exit} (h : ARun P k c s e s₁) (he : e ≠ .normal) : ARun P k (.seq c d) s e s₁ := by
  intro ρ a w hc
  refine wp_seq (wp_mono (h ρ a w hc) ?_)
  rintro x a' w' ⟨rfl, hh⟩
  · cases x <;> first | exact absurd rfl he | exact ⟨rfl, hh⟩

def Then (K : St → Prop) (Q : Exit → St → Prop) : Exit → St → Prop
  | .normal, s => K s
  | e, s => Q e s

theorem AWP.seq {P : Program} {k : Nat} {c d : Code} {s : St} {Q : Exit → St → Prop} (h : AWP P k c s (Then (fun s' => AWP P k d s' Q) Q)) : AWP P k (.seq c d) s Q := by
  obtain ⟨e, s₁, hr, hq⟩ := h
  cases e with
  | normal => obtain ⟨e, s₂, hr', hq'⟩ := hq; exact ⟨e, s₂, hr.seq hr', hq'⟩
  | exit id => exact ⟨_, s₁, hr.seq_out (by simp), hq⟩
  | goto l => exact ⟨_, s₁, hr.seq_out (by simp), hq⟩
  | ret => exact ⟨_, s₁, hr.seq_out (by simp), hq⟩
  | panic ch => exact ⟨_, s₁, hr.seq_out (by simp), hq⟩
  | outgrown => exact ⟨_, s₁, hr.seq_out (by simp), hq⟩
theorem AWP.seq_k {P : Program} {k : Nat} {c d : Code} {s : St} {Q : Exit → St → Prop} (h : ∀ K : St → Prop, (∀ s', AWP P k d s' Q → K s') → AWP P k c s (Then K Q)) : AWP P k (.seq c d) s Q :=
  AWP.seq (h _ fun _ h => h)
theorem AWP.skip {P : Program} {k : Nat} {s : St} {Q : Exit → St → Prop} (h : Q .normal s) : AWP P k .skip s Q := ⟨_, _, ARun.skip, h⟩
theorem AWP.label {P : Program} {k l : Nat} {s : St} {Q : Exit → St → Prop} (h : Q .normal s) : AWP P k (.label l) s Q := ⟨_, _, ARun.label, h⟩
theorem AWP.exit {P : Program} {k id : Nat} {s : St} {Q : Exit → St → Prop} (h : Q (.exit id) s) : AWP P k (.exit id) s Q := ⟨_, _, ARun.exit, h⟩
theorem AWP.ret {P : Program} {k : Nat} {s : St} {Q : Exit → St → Prop} (h : Q .ret s) : AWP P k .ret s Q := ⟨_, _, ARun.ret, h⟩

/-- constants that name no memory -/
def plain : Value → Bool
  | .bool _ | .int _ _ | .float _ _ | .complex _ _ _ | .string _ | .pointer none | .slice none 0 0 | .map none | .chan none | .nilFunc | .nilIface => true
  | _ => false
theorem plain_self {P : Program} {ρ : Emb} {v : Value} (h : plain v = true) : VR P ρ v v := by
  cases v <;> simp [plain] at h <;> try constructor
  case pointer a => cases a <;> simp at h; exact .nilp
  case slice a n c =>
    cases a with
    | some a => simp at h
    | none => cases n <;> cases c <;> simp at h; exact .nils
  case map r => cases r <;> simp at h; exact .nilm
  case chan r => cases r <;> simp at h; exact .nilc

/-- what an operand is -/
def aev (e : Env) : Operand → Option Value
  | .tmp t => e.get t
  | .const v => bif plain v then some v else none
  | .func f => some (.func (.func f) #[] #[])
  | .global _ => none
theorem VR.fn {P : Program} {ρ : Emb} (fn : Fn) : VR P ρ (.func fn #[] #[]) (.func fn #[] #[]) := .func fn rfl rfl (by simp) (by simp)
theorem aev_eval {P : Program} {ρ : Emb} {e : Env} {a : Act} (h : ER P ρ e a.tmps) {x : Operand} {v : Value} (hx : aev e x = some v) : VR P ρ v (a.eval x) := by
  cases x with
  | tmp t =>
    obtain ⟨v', h1, h2⟩ := h t v hx
    simpa [Act.eval, h1] using h2
  | const c =>
    simp only [aev] at hx
    cases hp : plain c with
    | false => simp [hp] at hx
    | true => simp [hp] at hx; subst hx; exact plain_self hp
  | func f => simp only [aev, Option.some.injEq] at hx; subst hx; exact VR.fn _
  | global g => simp [aev] at hx

theorem ARun.cond {P : Program} {k : Nat} {c : Operand} {x y : Code} {s s' : St} {e : Exit} {t : Bool} (hc : aev s.env c = some (.bool t)) (h : ARun P k (if t then x else y) s e s') :
    ARun P k (.cond c x y) s e s' := by
  intro ρ a w hcur
  have := aev_eval hcur.er hc
  generalize hv : a.eval c = v at this
  cases this
  exact wp_cond hv (h ρ a w hcur)
theorem AWP.cond {P : Program} {k : Nat} {c : Operand} {x y : Code} {s : St} {Q : Exit → St → Prop} {t : Bool} (hc : aev s.env c = some (.bool t)) (h : AWP P k (if t then x else y) s Q) :
    AWP P k (.cond c x y) s Q := by
  obtain ⟨e, s', hr, hq⟩ := h
  exact ⟨e, s', ARun.cond hc hr, hq⟩
theorem AWP.cond_split {P : Program} {k : Nat} {c : Operand} {x y : Code} {s : St} {Q : Exit → St → Prop} {t : Bool} (hc : aev s.env c = some (.bool t))
    (h : t = true → AWP P k x s Q) (h' : t = false → AWP P k y s Q) : AWP P k (.cond c x y) s Q := by
  refine AWP.cond hc ?_
  cases t
  · exact h' rfl
  · exact h rfl

def InBlock (id : Nat) (Q : Exit → St → Prop) : Exit → St → Prop
  | .exit id', s => if id' = id then Q .normal s else Q (.exit id') s
  | e, s => Q e s

theorem ARun.block {P : Program} {k id : Nat} {c : Code} {s s' : St} {e e' : Exit} (h : ARun P k c s e s') (he : e' = match e with | .exit id' => if id' = id then .normal else .exit id' | e => e) :
    ARun P k (.block id c) s e' s' := by
  intro ρ a w hc
  refine wp_block (wp_mono (h ρ a w hc) ?_)
  rintro x a' w' ⟨rfl, hh⟩
  · cases x with
    | exit id' =>
      by_cases hid : id' = id
      · simp only [Exit.inBlock, hid, if_true]; simp only [hid, if_true] at he; subst he; exact ⟨rfl, hh⟩
      · simp only [Exit.inBlock, hid, if_false]; simp only [hid, if_false] at he; subst he; exact ⟨rfl, hh⟩
    | _ => subst he; exact ⟨rfl, hh⟩
theorem AWP.block {P : Program} {k id : Nat} {c : Code} {s : St} {Q : Exit → St → Prop} (h : AWP P k c s (InBlock id Q)) : AWP P k (.block id c) s Q := by
  obtain ⟨e, s', hr, hq⟩ := h
  refine ⟨_, s', ARun.block hr rfl, ?_⟩
  cases e with
  | exit id' =>
    by_cases hid : id' = id
    · simp only [InBlock, hid, if_true] at hq ⊢; exact hq
    · simp only [InBlock, hid, if_false] at hq ⊢; exact hq
  | _ => exact hq

/-- rounds of a loop: so many, to its end -/
inductive Rounds (P : Program) (k : Nat) (c : Code) : Nat → St → Exit → St → Prop
  | out {s s' : St} {e : Exit} (h : ARun P k c s e s') (he : e ≠ .normal) : Rounds P k c 1 s e s'
  | more {n : Nat} {s s₁ s' : St} {e : Exit} (h : ARun P k c s .normal s₁) (h' : Rounds P k c n s₁ e s') : Rounds P k c (n + 1) s e s'

theorem rounds_wp {P : Program} {k : Nat} {c : Code} {n : Nat} {s s' : St} {e : Exit} (h : Rounds P k c n s e s') {ρ₀ : Emb} {M₀ : Mem} {w₀ : World} (h0 : HR P ρ₀ M₀.get w₀) :
    ∀ ρ a w, Cur P k ρ s a w → Grow ρ₀ M₀ w₀ ρ s.mem w → Code.rounds P c (Post P k ρ₀ M₀ w₀ e s') n a w := by
  induction h with
  | out h he =>
    intro ρ a w hc hg
    refine wp_mono (h ρ a w hc) ?_
    intro x a' w' hp
    have := hp.trans h0 hg
    obtain ⟨rfl, hh⟩ := hp
    · cases x <;> first | exact absurd rfl he | exact this
  | more h _ ih =>
    intro ρ a w hc hg
    refine wp_mono (h ρ a w hc) ?_
    rintro x a' w' ⟨rfl, ρ', hc', hg'⟩
    · exact ih ρ' a' w' hc' (hg.trans h0 hg')
theorem ARun.loop {P : Program} {k n : Nat} {c : Code} {s s' : St} {e : Exit} (h : Rounds P k c n s e s') : ARun P k (.loop c) s e s' :=
  fun ρ a w hc => wp_loop_rounds n (rounds_wp h hc.hr ρ a w hc (Grow.refl _ _ _))

/-- a loop, by what holds ahead of each round and what grows less -/
theorem AWP.loop {P : Program} {k : Nat} {c : Code} {Q : Exit → St → Prop} (I : St → Prop) (μ : St → Nat) {s : St} (h0 : I s)
    (round : ∀ s, I s → AWP P k c s (Then (fun s' => I s' ∧ μ s' < μ s) Q)) : AWP P k (.loop c) s Q := by
  have key : ∀ n s, μ s = n → I s → ∃ r e s', Rounds P k c r s e s' ∧ Q e s' := by
    intro n
    induction n using Nat.strongRecOn with
    | _ n ih =>
      intro s hn hI
      obtain ⟨e, s₁, hr, hq⟩ := round s hI
      cases e with
      | normal =>
        obtain ⟨r, e, s', hr', hq'⟩ := ih (μ s₁) (hn ▸ hq.2) s₁ rfl hq.1
        exact ⟨_, e, s', .more hr hr', hq'⟩
      | exit id => exact ⟨1, _, s₁, .out hr (by simp), hq⟩
      | goto l => exact ⟨1, _, s₁, .out hr (by simp), hq⟩
      | ret => exact ⟨1, _, s₁, .out hr (by simp), hq⟩
      | panic ch => exact ⟨1, _, s₁, .out hr (by simp), hq⟩
      | outgrown => exact ⟨1, _, s₁, .out hr (by simp), hq⟩
  obtain ⟨r, e, s', hr, hq⟩ := key _ s rfl h0
  exact ⟨e, s', ARun.loop hr, hq⟩
end Go.Proofs.Ythheaehpnleiaaa.AX
