/- The layer, third part: regions, in whichever order they run. -/
import Derived.Test.YthheaehpnleiaaaAxB
namespace Go.Proofs.Ythheaehpnleiaaa.AX
open Go
set_option linter.unusedVariables false
set_option linter.unusedSimpArgs false

def updE (ρ : Emb) (id : Nat) (f : Inf) : Emb := fun i => if i = id then some f else ρ i
def updM (m : Mm) (id : Nat) (b : Blk) : Mm := fun i => if i = id then some b else m i

/-- the operands are known, and the machine's are such -/
def Opnds (P : Program) (ρ : Emb) (ev : Operand → Option Value) (o : Oper) (a : Act) : Prop := ∀ x, x ∈ o.op.operands → ∃ v, ev x = some v ∧ VR P ρ v (a.eval x)

/-- it comes to this value and leaves the memory as it is -/
def StillOk (P : Program) (o : Oper) (ev : Operand → Option Value) (m : Mm) (v : Value) : Prop :=
  ∀ ρ a w (K : Act → World → Prop) (Q : Exit → Act → World → Prop), Opnds P ρ ev o a → HR P ρ m w →
    (∀ v' w', VR P ρ v v' → HR P ρ m w' → Ext ρ m w ρ m w' → K (a.put o.dst v') w') → o.wp P a w K Q
/-- it makes this block, whichever number that gets -/
def AllocOk (P : Program) (o : Oper) (ev : Operand → Option Value) (b : Blk) (mk : Nat → Value) : Prop :=
  ∀ ρ m a w id (K : Act → World → Prop) (Q : Exit → Act → World → Prop), Opnds P ρ ev o a → HR P ρ m w → ρ id = none →
    (∀ v' f w', VR P (updE ρ id f) (mk id) v' → HR P (updE ρ id f) (updM m id b) w' → Ext ρ m w (updE ρ id f) (updM m id b) w' → K (a.put o.dst v') w') →
    o.wp P a w K Q
/-- whatever else it does -/
def EffOk (P : Program) (o : Oper) (ev : Operand → Option Value) (M : Mem) (v : Value) (M' : Mem) : Prop :=
  ∀ ρ a w (K : Act → World → Prop) (Q : Exit → Act → World → Prop), Opnds P ρ ev o a → HR P ρ M.get w → Free ρ M.next →
    (∀ v' ρ' w', VR P ρ' v v' → HR P ρ' M'.get w' → Free ρ' M'.next → Grow ρ M w ρ' M' w' → K (a.put o.dst v') w') →
    o.wp P a w K Q

theorem StillOk.more {P : Program} {o : Oper} {ev : Operand → Option Value} {m n : Mm} {v : Value} (h : StillOk P o ev m v) (hs : Within m n) : StillOk P o ev n v := by
  intro ρ a w K Q ho hr hk
  refine h ρ a w K Q ho (hr.within hs) fun v' w' hv hm he => ?_
  obtain ⟨h1, h2⟩ := frame hr hs he hm
  have hw : Within n (join m m n) := fun i b hi => by
    unfold join
    cases hmi : m i with
    | none => simp [hi]
    | some c => have := hs i c hmi; rw [hi] at this; cases this; rfl
  exact hk v' w' hv (h1.within hw) (h2.less' hw)

inductive Cls where
  | skip
  | pure
  | read
  | alloc (id : Nat) (b : Blk)
  | eff

/-- a step: which operation, what was known and the memory ahead of it, of which kind it is, its value, the memory behind it -/
structure Tk where
  i : Nat
  o : Oper
  env : Env
  pre : Mem
  cls : Cls
  v : Value
  post : Mem

def isAlloc (P : Program) (o : Oper) : Bool := match o.op with
  | .alloc _ | .box _ _ | .buildSlice _ _ _ | .makeSlice _ _ _ => true
  | .convert src dst _ => match P.underlying src, P.underlying dst with
    | some .string, some (.slice _) => true
    | _, _ => false
  | _ => false
def isEff (o : Oper) : Bool := match o.op with
  | .store _ _ _ => true
  | .call c => match c.callee with
    | .builtin b => match b with
      | .len | .min | .max => false
      | _ => true
    | _ => true
  | _ => false

def wantA (ops : Array Oper) (e : Env) (o : Oper) : Option Bool :=
  match o.guard with
  | none => some true
  | some (j, want) => match (ops[j]?).bind (·.dst) with
    | none => some false
    | some t => match e.get t with
      | some (.bool b) => some (b == want)
      | some (.tuple _) => some false
      | _ => none

structure Tk.Ok (P : Program) (ops : Array Oper) (t : Tk) : Prop where
  op : ops[t.i]? = some t.o
  kind : isEff t.o = true → t.cls = .skip ∨ t.cls = .eff
  cls : match t.cls with
    | .skip => wantA ops t.env t.o = some false ∧ t.v = undef ∧ t.post = t.pre
    | .pure => wantA ops t.env t.o = some true ∧ (∀ x, x ∈ t.o.op.operands → ∃ v, aev t.env x = some v) ∧ (∀ m, StillOk P t.o (aev t.env) m t.v) ∧ t.post = t.pre
    | .read => wantA ops t.env t.o = some true ∧ (∀ x, x ∈ t.o.op.operands → ∃ v, aev t.env x = some v) ∧ t.post = t.pre
    | .alloc id b => wantA ops t.env t.o = some true ∧ (∀ x, x ∈ t.o.op.operands → ∃ v, aev t.env x = some v) ∧ isAlloc P t.o = true ∧ (∃ mk, t.v = mk id ∧ AllocOk P t.o (aev t.env) b mk) ∧ t.post = t.pre.put id b
    | .eff => wantA ops t.env t.o = some true ∧ (∀ x, x ∈ t.o.op.operands → ∃ v, aev t.env x = some v) ∧ isEff t.o = true ∧ EffOk P t.o (aev t.env) t.pre t.v t.post

def Chain : List Tk → Env → Mem → Env → Mem → Prop
  | [], e, M, e', M' => e' = e ∧ M' = M
  | t :: T, e, M, e', M' => t.env = e ∧ t.pre = M ∧ Chain T (e.put t.o.dst t.v) t.post e' M'

def envOf (e : Env) (T : List Tk) : Env := T.foldl (fun e t => e.put t.o.dst t.v) e

theorem Chain.env {T : List Tk} : ∀ {e : Env} {M : Mem} {e' : Env} {M' : Mem}, Chain T e M e' M' → e' = envOf e T := by
  induction T with
  | nil => intro e M e' M' h; exact h.1
  | cons t T ih => intro e M e' M' h; exact ih h.2.2
theorem Chain.split {A B : List Tk} : ∀ {e : Env} {M : Mem} {e' : Env} {M' : Mem}, Chain (A ++ B) e M e' M' → ∃ M₁, Chain A e M (envOf e A) M₁ ∧ Chain B (envOf e A) M₁ e' M' := by
  induction A with
  | nil => intro e M e' M' h; exact ⟨M, ⟨rfl, rfl⟩, h⟩
  | cons t A ih =>
    intro e M e' M' h
    obtain ⟨M₁, h1, h2⟩ := ih h.2.2
    exact ⟨M₁, ⟨h.1, h.2.1, h1⟩, h2⟩

theorem envOf_get (T : List Tk) : ∀ (e : Env) (s : Nat) (v : Value), (envOf e T).get s = some v → (∃ u, u ∈ T ∧ u.o.dst = some s ∧ u.v = v) ∨ (e.get s = some v ∧ ∀ u, u ∈ T → u.o.dst ≠ some s) := by
  induction T with
  | nil => intro e s v h; exact .inr ⟨h, by simp⟩
  | cons t T ih =>
    intro e s v h
    rcases ih (e.put t.o.dst t.v) s v h with ⟨u, hu, hd, hv⟩ | ⟨hg, hn⟩
    · exact .inl ⟨u, List.mem_cons_of_mem _ hu, hd, hv⟩
    · rw [Env.get_put] at hg
      by_cases hd : t.o.dst = some s
      · simp only [hd, if_true, Option.some.injEq] at hg
        exact .inl ⟨t, List.mem_cons_self, hd, hg⟩
      · simp only [hd, if_false] at hg
        exact .inr ⟨hg, fun u hu => (List.mem_cons.1 hu).elim (fun h => h ▸ hd) (hn u)⟩

/-- steps without effects leave the memory but for what they make -/
theorem Chain.quiet {P : Program} {ops : Array Oper} {T : List Tk} : ∀ {e : Env} {M : Mem} {e' : Env} {M' : Mem}, Chain T e M e' M' → (∀ t, t ∈ T → t.Ok P ops) → (∀ t, t ∈ T → isEff t.o = false) →
    M'.next = M.next ∧ (∀ i b, M'.get i = some b → M.get i = some b ∨ ∃ t, t ∈ T ∧ t.cls = .alloc i b) ∧ (∀ i, M'.get i = none → M.get i = none ∧ ∀ t b, t ∈ T → t.cls ≠ .alloc i b) := by
  induction T with
  | nil => intro e M e' M' h _ _; obtain ⟨rfl, rfl⟩ := h; exact ⟨rfl, fun i b h => .inl h, fun i h => ⟨h, by simp⟩⟩
  | cons t T ih =>
    intro e M e' M' h hok hne
    obtain ⟨h1, h2, h3⟩ := h
    obtain ⟨ih1, ih2, ih3⟩ := ih h3 (fun u hu => hok u (List.mem_cons_of_mem _ hu)) (fun u hu => hne u (List.mem_cons_of_mem _ hu))
    have ho := (hok t List.mem_cons_self).cls
    have hn := hne t List.mem_cons_self
    have lift : ∀ i b, (t.post.get i = some b ∨ ∃ u, u ∈ T ∧ u.cls = .alloc i b) → (t.post.get i = some b → M.get i = some b ∨ t.cls = .alloc i b) → M.get i = some b ∨ ∃ u, u ∈ t :: T ∧ u.cls = .alloc i b := by
      rintro i b (h | ⟨u, hu, hc⟩) hh
      · rcases hh h with h | h
        · exact .inl h
        · exact .inr ⟨t, List.mem_cons_self, h⟩
      · exact .inr ⟨u, List.mem_cons_of_mem _ hu, hc⟩
    have key : (t.post.next = M.next ∧ (∀ i b, t.post.get i = some b → M.get i = some b ∨ t.cls = .alloc i b) ∧ (∀ i, t.post.get i = none → M.get i = none ∧ ∀ b, t.cls ≠ .alloc i b)) := by
      cases hc : t.cls with
      | skip => rw [hc] at ho; obtain ⟨_, _, hp⟩ := ho; rw [hp, h2]; exact ⟨rfl, fun i b h => .inl h, fun i h => ⟨h, by simp⟩⟩
      | pure => rw [hc] at ho; obtain ⟨_, _, _, hp⟩ := ho; rw [hp, h2]; exact ⟨rfl, fun i b h => .inl h, fun i h => ⟨h, by simp⟩⟩
      | read => rw [hc] at ho; obtain ⟨_, _, hp⟩ := ho; rw [hp, h2]; exact ⟨rfl, fun i b h => .inl h, fun i h => ⟨h, by simp⟩⟩
      | alloc id b =>
        rw [hc] at ho; obtain ⟨_, _, _, _, hp⟩ := ho
        rw [hp, h2]
        refine ⟨rfl, fun i c h => ?_, fun i h => ?_⟩
        · rw [Mem.get_put] at h
          by_cases hi : i = id
          · subst hi; simp at h; subst h; exact .inr rfl
          · simp [hi] at h; exact .inl h
        · rw [Mem.get_put] at h
          by_cases hi : i = id
          · simp [hi] at h
          · simp [hi] at h; exact ⟨h, by rintro c hh; injection hh with h1 _; exact hi h1.symm⟩
      | eff => rw [hc] at ho; obtain ⟨_, _, he, _⟩ := ho; rw [hn] at he; cases he
    refine ⟨ih1.trans key.1, fun i b h => lift i b (ih2 i b h) (key.2.1 i b), fun i h => ?_⟩
    obtain ⟨hp, hT⟩ := ih3 i h
    obtain ⟨hM, ht⟩ := key.2.2 i hp
    exact ⟨hM, fun u b hu => (List.mem_cons.1 hu).elim (fun h => h ▸ ht b) (hT u b)⟩

def Direct (ops : Array Oper) (d j : Nat) : Prop := ∃ o, ops[j]? = some o ∧ ∃ e, e ∈ o.after ∧ Region.binds .any e = true ∧ e.on = d
inductive Anc (ops : Array Oper) : Nat → Nat → Prop
  | one {d j : Nat} (h : Direct ops d j) : Anc ops d j
  | more {i d j : Nat} (h : Anc ops i d) (h' : Direct ops d j) : Anc ops i j

/-- the temporaries that an operation looks at -/
def looks (ops : Array Oper) (o : Oper) (s : Nat) : Prop := Operand.tmp s ∈ o.op.operands ∨ ∃ j want, o.guard = some (j, want) ∧ (ops[j]?).bind (·.dst) = some s

/-- what a region's own form tells -/
structure Static (P : Program) (k : Nat) (ops : Array Oper) (T : List Tk) : Prop where
  len : T.length = ops.size
  nodup : ∀ A t C, T = A ++ t :: C → ∀ u, u ∈ A → u.i ≠ t.i
  all : ∀ i, i < ops.size → ∃ t, t ∈ T ∧ t.i = i
  lt : ∀ t, t ∈ T → t.i < ops.size
  topo : ∀ A t C, T = A ++ t :: C → ∀ d, Direct ops d t.i → ∃ u, u ∈ A ∧ u.i = d
  dst : ∀ t s, t ∈ T → t.o.dst = some s → s < k
  one : ∀ A t C, T = A ++ t :: C → ∀ u, u ∈ A → ∀ s, u.o.dst = some s → t.o.dst ≠ some s
  look : ∀ t u, t ∈ T → u ∈ T → t.i ≠ u.i → ∀ s, u.o.dst = some s → looks ops t.o s → Anc ops u.i t.i ∨ Anc ops t.i u.i
  effs : ∀ A t C, T = A ++ t :: C → isEff t.o = true → ∀ u, u ∈ A → isEff u.o = true ∨ isAlloc P u.o = true → Anc ops u.i t.i

def lastEff (T : List Tk) : Prop := T = [] ∨ ∃ A t, T = A ++ [t] ∧ isEff t.o = true
def bound (M : Mem) : List Tk → Mem
  | [] => M
  | t :: T => bound t.post T

theorem bound_snoc (M : Mem) (A : List Tk) (t : Tk) : bound M (A ++ [t]) = t.post := by
  induction A generalizing M with
  | nil => rfl
  | cons u A ih => exact ih u.post

/-- a read's value is the same wherever it may run -/
def Reads (P : Program) (M : Mem) (T : List Tk) (am : Nat → Nat → Bool) : Prop :=
  ∀ t, t ∈ T → t.cls = .read → ∀ A B, T = A ++ B → lastEff A → (∀ u, u ∈ A → isEff u.o = true → am t.i u.i = false) → (∀ u, u ∈ B → isEff u.o = true → am u.i t.i = false) →
    ∃ m : Mm, (∀ i b, m i = some b → (bound M A).get i = some b ∨ ∃ u, u ∈ B ∧ u.cls = .alloc i b ∧ am u.i t.i = true) ∧ StillOk P t.o (aev t.env) m t.v

structure Inv (P : Program) (k : Nat) (e0 : Env) (M0 : Mem) (ρ0 : Emb) (w0 : World) (T : List Tk) (S : Nat → Prop) (a : Act) (w : World) (T1 T2 : List Tk) (ρ : Emb) (p : Mm) (B : Mem) : Prop where
  cut : T = T1 ++ T2
  last : lastEff T1
  base : B = bound M0 T1
  done : ∀ t, t ∈ T1 → isEff t.o = true ∨ isAlloc P t.o = true → S t.i
  open_ : ∀ t, t ∈ T2 → isEff t.o = true → ¬ S t.i
  hr : HR P ρ p w
  free : Free ρ B.next
  pin : ∀ i b, B.get i = some b → p i = some b
  pal : ∀ t i b, t ∈ T2 → t.cls = .alloc i b → S t.i → p i = some b
  pof : ∀ i b, p i = some b → B.get i = some b ∨ ∃ t, t ∈ T2 ∧ t.cls = .alloc i b ∧ S t.i
  un : ∀ t i b, t ∈ T2 → t.cls = .alloc i b → ¬ S t.i → ρ i = none
  res : ∀ t i b, t ∈ T2 → t.cls = .alloc i b → i < B.next ∧ B.get i = none
  tin : ∀ t s, t ∈ T → S t.i → t.o.dst = some s → ∃ v', a.tmps[s]? = some v' ∧ VR P ρ t.v v'
  tof : ∀ s v, e0.get s = some v → (∀ t, t ∈ T → S t.i → t.o.dst ≠ some s) → ∃ v', a.tmps[s]? = some v' ∧ VR P ρ v v'
  ext : Ext ρ0 M0.get w0 ρ p w
  keep : ∀ i, i < M0.next → ρ0 i = none → (∀ t b, t ∈ T → t.cls ≠ .alloc i b) → ρ i = none
  next : M0.next ≤ B.next
  defers : a.defers = []
  size : a.tmps.size = k
end Go.Proofs.Ythheaehpnleiaaa.AX
