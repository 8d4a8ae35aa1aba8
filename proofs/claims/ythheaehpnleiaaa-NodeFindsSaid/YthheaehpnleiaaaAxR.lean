/- The layer, eighteenth part: a region's rule for the walk, in any order. -/
import Derived.Test.YthheaehpnleiaaaAxQ
namespace Go.Proofs.Ythheaehpnleiaaa.AX
open Go
set_option linter.unusedVariables false
set_option linter.unusedSimpArgs false

def inP (U : List (Nat × Nat)) (i j : Nat) : Bool := U.any fun p => Nat.beq p.1 i && Nat.beq p.2 j
/-- a memory, with what an operation surely finds made -/
def withA (A : List (Nat × Nat)) : List (Nat × Nat × Blk) → Nat → Mm → Mm
  | [], _, m => m
  | (j, id, b) :: al, i, m => bif inP A j i then updM (withA A al i m) id b else withA A al i m
def allLog (U : List (Nat × Nat)) (i : Nat) (f : Mem → Prop) : List (Nat × Mem) → Prop
  | [] => True
  | (j, B) :: l => (inP U i j = true → f B) ∧ allLog U i f l
def allRl (P : Program) (U : List (Nat × Nat)) (j : Nat) (m : Mm) : List (Nat × Oper × Env × Value) → Prop
  | [] => True
  | (i, o, e, v) :: l => (inP U i j = true → readV P (aev e) m o = some v) ∧ allRl P U j m l

/-- operations in any order -/
def wpD (P : Program) (ops : Array Oper) (k n0 : Nat) (A U : List (Nat × Nat)) : List (Nat × Oper) → Nat → Env → Mem → Mem → List (Nat × Nat × Blk) → List (Nat × Mem) → List (Nat × Oper × Env × Value) → (Env → Mem → Prop) → Prop
  | [], _, e, M, _, _, _, _, K => K e M
  | (i, o) :: l, r, e, M, B, al, log, rl, K => match wantA ops e o with
    | none => False
    | some false => match kindOf P o with
      | .alloc => wpD P ops k n0 A U l (r + 1) (e.put o.dst undef) M B al log rl K
      | .eff => allRl P U i M.get rl ∧ wpD P ops k n0 A U l r (e.put o.dst undef) M M [] ((i, B) :: log) rl K
      | .call => allRl P U i M.get rl ∧ wpD P ops k n0 A U l r (e.put o.dst undef) M M [] ((i, B) :: log) rl K
      | _ => wpD P ops k n0 A U l r (e.put o.dst undef) M B al log rl K
    | some true => match kindOf P o with
      | .pure => match pureV P (aev e) o with
        | some v => wpD P ops k n0 A U l r (e.put o.dst v) M B al log rl K
        | none => False
      | .read => match readV P (aev e) (withA A al i B.get) o with
        | some v => allLog U i (fun B' => readV P (aev e) (withA A al i B'.get) o = some v) log ∧ wpD P ops k n0 A U l r (e.put o.dst v) M B al log ((i, o, e, v) :: rl) K
        | none => False
      | .alloc => match allocA P (aev e) o.op with
        | some (b, mk) => wpD P ops k n0 A U l (r + 1) (e.put o.dst (mk (n0 + r))) (M.put (n0 + r) b) B ((i, n0 + r, b) :: al) log rl K
        | none => False
      | .eff => match effV P (aev e) M o with
        | some (v, M') => allRl P U i M'.get rl ∧ wpD P ops k n0 A U l r (e.put o.dst v) M' M' [] ((i, B) :: log) rl K
        | none => False
      | .call => match callOf P (aev e) o with
        | some (f, args) => ∃ v M', ACall P f args M v M' ∧ allRl P U i M'.get rl ∧ wpD P ops k n0 A U l r (e.put o.dst v) M' M' [] ((i, B) :: log) rl K
        | none => ∃ v M', Known (aev e) o ∧ EffOk P o (aev e) M v M' ∧ allRl P U i M'.get rl ∧ wpD P ops k n0 A U l r (e.put o.dst v) M' M' [] ((i, B) :: log) rl K

def rlOf (t : Tk) : Nat × Oper × Env × Value := (t.i, t.o, t.env, t.v)

/-- what holds of the reads of a row of steps -/
def RdOk (P : Program) (A U : List (Nat × Nat)) : List Tk → Mem → List (Nat × Nat × Blk) → List (Nat × Mem) → List Tk → Prop
  | [], _, _, _, _ => True
  | t :: T, B, al, log, rl =>
    (t.cls = .read → StillOk P t.o (aev t.env) (withA A al t.i B.get) t.v ∧ ∀ x, x ∈ log → inP U t.i x.1 = true → StillOk P t.o (aev t.env) (withA A al t.i x.2.get) t.v) ∧
    (isEff t.o = true → ∀ u, u ∈ rl → inP U u.i t.i = true → StillOk P u.o (aev u.env) t.post.get u.v) ∧
    RdOk P A U T (if isEff t.o then t.post else B) (if isEff t.o then [] else match t.cls with | .alloc id b => (t.i, id, b) :: al | _ => al) (if isEff t.o then (t.i, B) :: log else log) (match t.cls with | .read => t :: rl | _ => rl)

theorem allLog_spec {U : List (Nat × Nat)} {i : Nat} {f : Mem → Prop} {l : List (Nat × Mem)} (h : allLog U i f l) (x : Nat × Mem) (hx : x ∈ l) (hu : inP U i x.1 = true) : f x.2 := by
  induction l with
  | nil => cases hx
  | cons y l ih =>
    obtain ⟨j, B⟩ := y
    rcases List.mem_cons.1 hx with rfl | hx
    · exact h.1 hu
    · exact ih h.2 hx
theorem allRl_spec {P : Program} {U : List (Nat × Nat)} {j : Nat} {m : Mm} {l : List Tk} (h : allRl P U j m (l.map rlOf)) (u : Tk) (hu : u ∈ l) (hp : inP U u.i j = true) : readV P (aev u.env) m u.o = some u.v := by
  induction l with
  | nil => cases hu
  | cons y l ih =>
    rcases List.mem_cons.1 hu with rfl | hu
    · exact h.1 hp
    · exact ih h.2 hu

theorem wpD_trace {P : Program} {ops : Array Oper} {k n0 : Nat} {A U : List (Nat × Nat)} {K : Env → Mem → Prop} : ∀ (l : List (Nat × Oper)) (r : Nat) (e : Env) (M B : Mem) (al : List (Nat × Nat × Blk)) (log : List (Nat × Mem)) (rl : List Tk),
    (∀ p, p ∈ l → ops[p.1]? = some p.2) → wpD P ops k n0 A U l r e M B al log (rl.map rlOf) K →
    ∃ T e' M', T.map (·.i) = l.map (·.1) ∧ Chain T e M e' M' ∧ (∀ t, t ∈ T → t.Ok P ops) ∧ RdOk P A U T B al log rl ∧ Ids T (n0 + r) (n0 + r + nAl P (l.map (·.2))) ∧ (∀ t, t ∈ T → t.cls = .read → kindOf P t.o = .read) ∧ K e' M' := by
  intro l
  induction l with
  | nil => intro r e M B al log rl _ h; exact ⟨[], e, M, rfl, ⟨rfl, rfl⟩, by simp, trivial, Ids.nil _ _, by simp, h⟩
  | cons p l ih =>
    intro r e M B al log rl hops h
    obtain ⟨i, o⟩ := p
    have ho : ops[i]? = some o := hops (i, o) (by simp)
    have hops' : ∀ p, p ∈ l → ops[p.1]? = some p.2 := fun p hp => hops p (by simp [hp])
    simp only [wpD] at h
    have hke := kind_eff (P := P) (o := o)
    have hka := kind_alloc (P := P) (o := o)
    have more : ∀ (cls : Cls) (v : Value) (M₁ : Mem) (r' : Nat) (B' : Mem) (al' : List (Nat × Nat × Blk)) (log' : List (Nat × Mem)) (rl' : List Tk), Tk.Ok P ops ⟨i, o, e, M, cls, v, M₁⟩ →
        (cls = .read → kindOf P o = .read) → (cls = .read → StillOk P o (aev e) (withA A al i B.get) v ∧ ∀ x, x ∈ log → inP U i x.1 = true → StillOk P o (aev e) (withA A al i x.2.get) v) →
        (isEff o = true → ∀ u, u ∈ rl → inP U u.i i = true → StillOk P u.o (aev u.env) M₁.get u.v) →
        B' = (if isEff o then M₁ else B) → al' = (if isEff o then [] else match cls with | .alloc id b => (i, id, b) :: al | _ => al) → log' = (if isEff o then (i, B) :: log else log) → rl' = (match cls with | .read => ⟨i, o, e, M, cls, v, M₁⟩ :: rl | _ => rl) →
        (∀ hi T, Ids T (n0 + r') hi → n0 + r' + nAl P (l.map (·.2)) ≤ hi → hi = n0 + r + nAl P (o :: l.map (·.2)) → Ids (⟨i, o, e, M, cls, v, M₁⟩ :: T) (n0 + r) hi) → n0 + r' + nAl P (l.map (·.2)) = n0 + r + nAl P (o :: l.map (·.2)) →
        wpD P ops k n0 A U l r' (e.put o.dst v) M₁ B' al' log' (rl'.map rlOf) K →
        ∃ T e' M', T.map (·.i) = ((i, o) :: l).map (·.1) ∧ Chain T e M e' M' ∧ (∀ t, t ∈ T → t.Ok P ops) ∧ RdOk P A U T B al log rl ∧ Ids T (n0 + r) (n0 + r + nAl P (((i, o) :: l).map (·.2))) ∧ (∀ t, t ∈ T → t.cls = .read → kindOf P t.o = .read) ∧ K e' M' := by
      intro cls v M₁ r' B' al' log' rl' hok hkr hrd hef hB hal hlog hrl hids hr' hw
      obtain ⟨T, e', M', q1, q2, q3, q4, q5, q7, q6⟩ := ih r' _ M₁ B' al' log' rl' hops' hw
      subst hB hal hlog hrl
      refine ⟨⟨i, o, e, M, cls, v, M₁⟩ :: T, e', M', by simp [q1], ⟨rfl, rfl, q2⟩, ?_, ⟨hrd, hef, q4⟩, ?_, ?_, q6⟩
      · intro t ht; rcases List.mem_cons.1 ht with rfl | ht; exact hok; exact q3 t ht
      · refine hids _ T ?_ ?_ rfl
        · show Ids T (n0 + r') (n0 + r + nAl P (o :: l.map (·.2)))
          rw [← hr']; exact q5
        · show n0 + r' + nAl P (l.map (·.2)) ≤ n0 + r + nAl P (o :: l.map (·.2))
          omega
      · intro t ht hc; rcases List.mem_cons.1 ht with rfl | ht; exact hkr hc; exact q7 t ht hc
    cases hw : wantA ops e o with
    | none => simp [hw] at h
    | some b =>
      simp only [hw] at h
      cases b with
      | false =>
        simp only at h
        have hok : Tk.Ok P ops ⟨i, o, e, M, .skip, undef, M⟩ := ⟨ho, fun _ => .inl rfl, hw, rfl, rfl⟩
        have hskip : ∀ r', r ≤ r' → ∀ hi T, Ids T (n0 + r') hi → n0 + r' + nAl P (l.map (·.2)) ≤ hi → hi = n0 + r + nAl P (o :: l.map (·.2)) → Ids (⟨i, o, e, M, .skip, undef, M⟩ :: T) (n0 + r) hi := fun r' hr' hi T hI _ _ => hI.skip (by omega) (Nat.le_refl _) (by simp)
        cases hk : kindOf P o with
        | alloc =>
          have hE : isEff o = false := by rw [hke, hk]; rfl
          simp only [hk] at h
          exact more .skip undef M (r + 1) B al log rl hok (fun h => by cases h) (fun h => by cases h) (fun h => by rw [hE] at h; cases h) (by simp [hE]) (by simp [hE]) (by simp [hE]) rfl (hskip (r + 1) (by omega)) (by simp only [nAl, hk]; omega) h
        | pure =>
          have hE : isEff o = false := by rw [hke, hk]; rfl
          simp only [hk] at h
          exact more .skip undef M r B al log rl hok (fun h => by cases h) (fun h => by cases h) (fun h => by rw [hE] at h; cases h) (by simp [hE]) (by simp [hE]) (by simp [hE]) rfl (hskip r (Nat.le_refl _)) (by simp only [nAl, hk]) h
        | read =>
          have hE : isEff o = false := by rw [hke, hk]; rfl
          simp only [hk] at h
          exact more .skip undef M r B al log rl hok (fun h => by cases h) (fun h => by cases h) (fun h => by rw [hE] at h; cases h) (by simp [hE]) (by simp [hE]) (by simp [hE]) rfl (hskip r (Nat.le_refl _)) (by simp only [nAl, hk]) h
        | eff =>
          have hE : isEff o = true := by rw [hke, hk]; rfl
          simp only [hk] at h
          exact more .skip undef M r M [] ((i, B) :: log) rl hok (fun h => by cases h) (fun h => by cases h) (fun _ u hu hp => readV_ok (allRl_spec h.1 u hu hp)) (by simp [hE]) (by simp [hE]) (by simp [hE]) rfl (hskip r (Nat.le_refl _)) (by simp only [nAl, hk]) h.2
        | call =>
          have hE : isEff o = true := by rw [hke, hk]; rfl
          simp only [hk] at h
          exact more .skip undef M r M [] ((i, B) :: log) rl hok (fun h => by cases h) (fun h => by cases h) (fun _ u hu hp => readV_ok (allRl_spec h.1 u hu hp)) (by simp [hE]) (by simp [hE]) (by simp [hE]) rfl (hskip r (Nat.le_refl _)) (by simp only [nAl, hk]) h.2
      | true =>
        simp only at h
        cases hk : kindOf P o with
        | pure =>
          have hE : isEff o = false := by rw [hke, hk]; rfl
          simp only [hk] at h
          split at h
          · rename_i v hv
            exact more .pure v M r B al log rl ⟨ho, fun h => (by rw [hE] at h; cases h), hw, pureV_known hv, pureV_ok hv, rfl⟩ (fun h => by cases h) (fun h => by cases h) (fun h => by rw [hE] at h; cases h) (by simp [hE]) (by simp [hE]) (by simp [hE]) rfl
              (fun hi T hI _ _ => hI.skip (by omega) (Nat.le_refl _) (by simp)) (by simp only [nAl, hk]) h
          · exact h.elim
        | read =>
          have hE : isEff o = false := by rw [hke, hk]; rfl
          simp only [hk] at h
          split at h
          · rename_i v hv
            exact more .read v M r B al log (⟨i, o, e, M, .read, v, M⟩ :: rl) ⟨ho, fun h => (by rw [hE] at h; cases h), hw, readV_known hv, rfl⟩ (fun _ => hk) (fun _ => ⟨readV_ok hv, fun x hx hu => readV_ok (allLog_spec h.1 x hx hu)⟩) (fun h => by rw [hE] at h; cases h)
              (by simp [hE]) (by simp [hE]) (by simp [hE]) rfl (fun hi T hI _ _ => hI.skip (by omega) (Nat.le_refl _) (by simp)) (by simp only [nAl, hk]) h.2
          · exact h.elim
        | alloc =>
          have hE : isEff o = false := by rw [hke, hk]; rfl
          simp only [hk] at h
          split at h
          · rename_i b mk hv
            exact more (.alloc (n0 + r) b) (mk (n0 + r)) (M.put (n0 + r) b) (r + 1) B ((i, n0 + r, b) :: al) log rl ⟨ho, fun h => (by rw [hE] at h; cases h), hw, allocA_known hv, by rw [hka, hk]; rfl, ⟨mk, rfl, allocA_ok hv⟩, rfl⟩ (fun h => by cases h) (fun h => by cases h) (fun h => by rw [hE] at h; cases h)
              (by simp [hE]) (by simp [hE]) (by simp [hE]) rfl (fun hi T hI hle heq => Ids.alloc (by rwa [show n0 + (r + 1) = n0 + r + 1 by omega] at hI) (by simp only [nAl, hk] at heq; omega) rfl) (by simp only [nAl, hk]; omega) h
          · exact h.elim
        | eff =>
          have hE : isEff o = true := by rw [hke, hk]; rfl
          simp only [hk] at h
          split at h
          · rename_i v M₁ hv
            exact more .eff v M₁ r M₁ [] ((i, B) :: log) rl ⟨ho, fun _ => .inr rfl, hw, effV_known hv, hE, effV_ok hv⟩ (fun h => by cases h) (fun h => by cases h) (fun _ u hu hp => readV_ok (allRl_spec h.1 u hu hp)) (by simp [hE]) (by simp [hE]) (by simp [hE]) rfl
              (fun hi T hI _ _ => hI.skip (by omega) (Nat.le_refl _) (by simp)) (by simp only [nAl, hk]) h.2
          · exact h.elim
        | call =>
          have hE : isEff o = true := by rw [hke, hk]; rfl
          simp only [hk] at h
          split at h
          · rename_i f args hv
            obtain ⟨v, M₁, hc, h1, h⟩ := h
            exact more .eff v M₁ r M₁ [] ((i, B) :: log) rl ⟨ho, fun _ => .inr rfl, hw, callOf_known hv, hE, call_ok hv hc⟩ (fun h => by cases h) (fun h => by cases h) (fun _ u hu hp => readV_ok (allRl_spec h1 u hu hp)) (by simp [hE]) (by simp [hE]) (by simp [hE]) rfl
              (fun hi T hI _ _ => hI.skip (by omega) (Nat.le_refl _) (by simp)) (by simp only [nAl, hk]) h
          · obtain ⟨v, M₁, hkn, he, h1, h⟩ := h
            exact more .eff v M₁ r M₁ [] ((i, B) :: log) rl ⟨ho, fun _ => .inr rfl, hw, hkn, hE, he⟩ (fun h => by cases h) (fun h => by cases h) (fun _ u hu hp => readV_ok (allRl_spec h1 u hu hp)) (by simp [hE]) (by simp [hE]) (by simp [hE]) rfl
              (fun hi T hI _ _ => hI.skip (by omega) (Nat.le_refl _) (by simp)) (by simp only [nAl, hk]) h

/-! ### what a region's form tells -/
def opAt (ops : Array Oper) (i : Nat) : Oper := (ops[i]?).getD default
def directs (o : Oper) : List Nat := (o.after.toList.filter (Region.binds .any)).map (·.on)
def amOf (msk : List Nat) (i j : Nat) : Bool := (msk.getD j 0).testBit i
def okMask (ops : Array Oper) (msk : List Nat) : Bool := (List.range ops.size).all fun j => (List.range ops.size).all fun i => !amOf msk i j || (directs (opAt ops j)).any fun d => Nat.beq d i || (decide (d < j) && amOf msk i d)
def dstsDiffer (a b : Oper) : Bool := match a.dst, b.dst with
  | some s, some t => !(Nat.beq s t)
  | _, _ => true
def lookOk (ops : Array Oper) (msk : List Nat) (u t : Nat) : Bool := match (opAt ops u).dst with
  | some s => !((opAt ops t).looksAt ops).contains s || amOf msk u t || amOf msk t u
  | none => true
def isRd (P : Program) (o : Oper) : Bool := match kindOf P o with
  | .read => true
  | _ => false
def okPair (P : Program) (ops : Array Oper) (msk : List Nat) (U : List (Nat × Nat)) (u t : Nat) : Bool :=
  !(Nat.beq u t) && dstsDiffer (opAt ops u) (opAt ops t) && (!(isEff (opAt ops t)) || !(isEff (opAt ops u) || isAlloc P (opAt ops u)) || amOf msk u t) && lookOk ops msk u t && lookOk ops msk t u &&
  (!(isRd P (opAt ops u) && isEff (opAt ops t)) || inP U u t || amOf msk u t) && (!(isEff (opAt ops u) && isRd P (opAt ops t)) || inP U t u || amOf msk u t)
def okOrd (P : Program) (ops : Array Oper) (msk : List Nat) (U : List (Nat × Nat)) : List Nat → Bool
  | [] => true
  | u :: l => l.all (okPair P ops msk U u) && okOrd P ops msk U l
def okTopo (ops : Array Oper) : List Nat → List Nat → Bool
  | _, [] => true
  | seen, u :: l => (directs (opAt ops u)).all (fun d => seen.contains d) && okTopo ops (u :: seen) l
def okReg (P : Program) (k : Nat) (ops : Array Oper) (ord msk : List Nat) (A U : List (Nat × Nat)) : Bool :=
  Nat.beq ord.length ops.size && (List.range ops.size).all (fun i => ord.contains i) && ord.all (fun i => decide (i < ops.size)) && okTopo ops [] ord && okOrd P ops msk U ord && okMask ops msk && A.all (fun p => amOf msk p.1 p.2) && ord.all (fun i => dstLt k (opAt ops i).dst)

theorem okMask_spec {ops : Array Oper} {msk : List Nat} (h : okMask ops msk = true) : ∀ j, j < ops.size → ∀ i, i < ops.size → amOf msk i j = true → Anc ops i j := by
  intro j
  induction j using Nat.strongRecOn with
  | _ j ih =>
    intro hj i hi ham
    unfold okMask at h
    rw [List.all_eq_true] at h
    have h1 := h j (List.mem_range.2 hj)
    rw [List.all_eq_true] at h1
    have h2 := h1 i (List.mem_range.2 hi)
    rw [ham] at h2
    simp only [Bool.not_true, Bool.false_or, List.any_eq_true] at h2
    obtain ⟨d, hd, hc⟩ := h2
    have hdir : Direct ops d j := by
      unfold directs at hd
      rw [List.mem_map] at hd
      obtain ⟨e, he, rfl⟩ := hd
      rw [List.mem_filter] at he
      refine ⟨opAt ops j, by simp [opAt, hj], e, by simpa using he.1, he.2, rfl⟩
    rw [Bool.or_eq_true] at hc
    rcases hc with hc | hc
    · rw [beq_iff] at hc
      have : d = i := by simpa using hc
      exact .one (this ▸ hdir)
    · rw [Bool.and_eq_true] at hc
      have hdj : d < j := by simpa using hc.1
      exact .more (ih d hdj (by omega) i hi hc.2) hdir

theorem okOrd_spec {P : Program} {ops : Array Oper} {msk : List Nat} {U : List (Nat × Nat)} : ∀ {l : List Nat}, okOrd P ops msk U l = true → ∀ A t C, l = A ++ t :: C → ∀ u, u ∈ A → okPair P ops msk U u t = true := by
  intro l
  induction l with
  | nil => intro _ A t C h; simp at h
  | cons x l ih =>
    intro h A t C hl u hu
    simp only [okOrd, Bool.and_eq_true] at h
    cases A with
    | nil => cases hu
    | cons a A =>
      simp at hl
      obtain ⟨rfl, rfl⟩ := hl
      rcases List.mem_cons.1 hu with rfl | hu
      · exact List.all_eq_true.1 h.1 t (by simp)
      · exact ih h.2 A t C rfl u hu
theorem okTopo_spec {ops : Array Oper} : ∀ {l seen : List Nat}, okTopo ops seen l = true → ∀ A t C, l = A ++ t :: C → ∀ d, d ∈ directs (opAt ops t) → d ∈ seen ∨ d ∈ A := by
  intro l
  induction l with
  | nil => intro seen _ A t C h; simp at h
  | cons x l ih =>
    intro seen h A t C hl d hd
    simp only [okTopo, Bool.and_eq_true] at h
    cases A with
    | nil =>
      simp at hl
      obtain ⟨rfl, rfl⟩ := hl
      exact .inl (by simpa using List.all_eq_true.1 h.1 d hd)
    | cons a A =>
      simp at hl
      obtain ⟨rfl, rfl⟩ := hl
      rcases ih h.2 A t C rfl d hd with h' | h'
      · rcases List.mem_cons.1 h' with rfl | h'
        · exact .inr (by simp)
        · exact .inl h'
      · exact .inr (by simp [h'])
end Go.Proofs.Ythheaehpnleiaaa.AX
