/- The layer, twenty-first part: runs that a machine can make by itself. -/
import Derived.Test.YtopblipficpilaaGreatDoorBulkPuts2
namespace Go.Proofs.YtopblipficpilaaGreatDoor.AY
open Go
set_option linter.unusedVariables false
set_option linter.unusedSimpArgs false

inductive Tr where
  | nil
  | node (l : Tr) (v : Option Value) (r : Tr)
def Tr.get : Tr → Nat → Option Value
  | .nil, _ => none
  | .node l v r, k => bif Nat.beq k 0 then v else bif Nat.beq (k % 2) 1 then l.get (k / 2) else r.get (k / 2 - 1)
def Tr.set : Nat → Tr → Nat → Option Value → Tr
  | 0, t, _, _ => t
  | f + 1, .nil, k, b => bif Nat.beq k 0 then .node .nil b .nil else bif Nat.beq (k % 2) 1 then .node (Tr.set f .nil (k / 2) b) none .nil else .node .nil none (Tr.set f .nil (k / 2 - 1) b)
  | f + 1, .node l v r, k, b => bif Nat.beq k 0 then .node l b r else bif Nat.beq (k % 2) 1 then .node (Tr.set f l (k / 2) b) v r else .node l v (Tr.set f r (k / 2 - 1) b)
theorem Tr.get_set : ∀ (f : Nat) (t : Tr) (k j : Nat) (b : Option Value), k < f → (Tr.set f t k b).get j = if j = k then b else t.get j := by
  intro f
  induction f with
  | zero => intro t k j b h; omega
  | succ f ih =>
    intro t k j b h
    have hk2 : k ≠ 0 → k / 2 < f := fun h0 => by omega
    have hk3 : k ≠ 0 → k / 2 - 1 < f := fun h0 => by omega
    cases t with
    | nil =>
      simp only [Tr.set, beq_iff, Bool.cond_decide]
      by_cases h0 : k = 0
      · simp only [h0, if_true, Tr.get, beq_iff, Bool.cond_decide]
        by_cases hj : j = 0 <;> simp [hj]
      · simp only [h0, if_false]
        by_cases h1 : k % 2 = 1
        · simp only [h1, if_true, Tr.get, beq_iff, Bool.cond_decide]
          by_cases hj : j = 0
          · simp [hj, Ne.symm h0]
          · by_cases hj1 : j % 2 = 1
            · simp only [hj, hj1, if_false, if_true]
              rw [ih _ _ _ _ (hk2 h0)]
              have : (j / 2 = k / 2) ↔ j = k := by omega
              simp [this, Tr.get]
            · have : j ≠ k := by rintro rfl; exact hj1 h1
              simp [hj, hj1, this]
        · simp only [h1, if_false, Tr.get, beq_iff, Bool.cond_decide]
          by_cases hj : j = 0
          · simp [hj, Ne.symm h0]
          · by_cases hj1 : j % 2 = 1
            · have : j ≠ k := by rintro rfl; exact h1 hj1
              simp [hj, hj1, this]
            · simp only [hj, hj1, if_false]
              rw [ih _ _ _ _ (hk3 h0)]
              have : (j / 2 - 1 = k / 2 - 1) ↔ j = k := by omega
              simp [this, Tr.get]
    | node l v r =>
      simp only [Tr.set, beq_iff, Bool.cond_decide]
      by_cases h0 : k = 0
      · simp only [h0, if_true, Tr.get, beq_iff, Bool.cond_decide]
        by_cases hj : j = 0 <;> simp [hj]
      · simp only [h0, if_false]
        by_cases h1 : k % 2 = 1
        · simp only [h1, if_true, Tr.get, beq_iff, Bool.cond_decide]
          by_cases hj : j = 0
          · simp [hj, Ne.symm h0]
          · by_cases hj1 : j % 2 = 1
            · simp only [hj, hj1, if_false, if_true]
              rw [ih _ _ _ _ (hk2 h0)]
              have : (j / 2 = k / 2) ↔ j = k := by omega
              simp [this]
            · have : j ≠ k := by rintro rfl; exact hj1 h1
              simp [hj, hj1, this]
        · simp only [h1, if_false, Tr.get, beq_iff, Bool.cond_decide]
          by_cases hj : j = 0
          · simp [hj, Ne.symm h0]
          · by_cases hj1 : j % 2 = 1
            · have : j ≠ k := by rintro rfl; exact h1 hj1
              simp [hj, hj1, this]
            · simp only [hj, hj1, if_false]
              rw [ih _ _ _ _ (hk3 h0)]
              have : (j / 2 - 1 = k / 2 - 1) ↔ j = k := by omega
              simp [this]

def Tr.put (t : Tr) (d : Option Nat) (v : Value) : Tr := match d with
  | some d => t.set (d + 1) d (some v)
  | none => t
/-- the environment and the trie hold the same -/
def Like (e : Env) (t : Tr) : Prop := ∀ s, e.get s = t.get s
theorem Like.put {e : Env} {t : Tr} (h : Like e t) (d : Option Nat) (v : Value) : Like (e.put d v) (t.put d v) := by
  intro s
  rw [Env.get_put]
  cases d with
  | none => simp only [Tr.put, reduceCtorEq, if_false]; exact h s
  | some d =>
    simp only [Tr.put, Tr.get_set _ _ _ _ _ (Nat.lt_succ_self d), Option.some.injEq]
    by_cases hs : d = s
    · simp [hs]
    · simp [hs, Ne.symm hs, h s]

def aevT (t : Tr) : Operand → Option Value
  | .tmp s => t.get s
  | .const v => bif plain v then some v else none
  | .func f => some (.func (.func f) #[] #[])
  | .global _ => none
theorem Like.aev {e : Env} {t : Tr} (h : Like e t) : AY.aev e = aevT t := funext fun x => by cases x <;> simp only [AY.aev, aevT]; exact h _
def wantT (ops : Array Oper) (e : Tr) (o : Oper) : Option Bool := match o.guard with
  | none => some true
  | some (j, want) => match (ops[j]?).bind (·.dst) with
    | none => some false
    | some t => match e.get t with
      | some (.bool b) => some (b == want)
      | some (.tuple _) => some false
      | _ => none
theorem Like.want {e : Env} {t : Tr} (h : Like e t) (ops : Array Oper) (o : Oper) : wantA ops e o = wantT ops t o := by
  unfold wantA wantT
  cases o.guard with
  | none => rfl
  | some jw => obtain ⟨j, w⟩ := jw; simp only; cases (ops[j]?).bind (·.dst) with
    | none => rfl
    | some s => simp only [h s]; cases t.get s with
      | none => rfl
      | some v => cases v <;> rfl

abbrev CallF := FuncId → Array Value → Mem → Option (Value × Mem)
/-- operations that the layer does not know of itself (calls of what has no body): what they come to -/
abbrev ExtF := (Operand → Option Value) → Mem → Oper → Option Value

def xS (P : Program) (call : CallF) (ext : ExtF) (ops : Array Oper) (k n0 : Nat) : List Oper → Nat → Tr → Mem → Option (Tr × Mem)
  | [], _, e, M => some (e, M)
  | o :: l, r, e, M => bif dstLt k o.dst then match wantT ops e o with
    | none => none
    | some false => match kindOf P o with
      | .alloc => xS P call ext ops k n0 l (r + 1) (e.put o.dst undef) M
      | _ => xS P call ext ops k n0 l r (e.put o.dst undef) M
    | some true => match kindOf P o with
      | .pure => match pureV P (aevT e) o with
        | some v => xS P call ext ops k n0 l r (e.put o.dst v) M
        | none => none
      | .read => match readV P (aevT e) M.get o with
        | some v => xS P call ext ops k n0 l r (e.put o.dst v) M
        | none => none
      | .alloc => match allocA P (aevT e) o.op with
        | some (b, mk) => xS P call ext ops k n0 l (r + 1) (e.put o.dst (mk (n0 + r))) (M.put (n0 + r) b)
        | none => none
      | .eff => match effV P (aevT e) M o with
        | some (v, M') => xS P call ext ops k n0 l r (e.put o.dst v) M'
        | none => none
      | .call => match callOf P (aevT e) o with
        | some (f, args) => match call f args M with
          | some (v, M') => xS P call ext ops k n0 l r (e.put o.dst v) M'
          | none => none
        | none => match ext (aevT e) M o with
          | some v => xS P call ext ops k n0 l r (e.put o.dst v) M
          | none => none
    else none

theorem xS_ok {P : Program} {call : CallF} {ext : ExtF} (hcall : ∀ f args M v M', call f args M = some (v, M') → ACall P f args M v M') (hext : ∀ ev M o v, ext ev M o = some v → Known ev o ∧ EffOk P o ev M v M) {ops : Array Oper} {k n0 : Nat} : ∀ (l : List Oper) (r : Nat) (e : Env) (t : Tr) (M : Mem) (t' : Tr) (M' : Mem), Like e t →
    xS P call ext ops k n0 l r t M = some (t', M') → wpS P ops k n0 l r e M fun e' M'' => Like e' t' ∧ M'' = M' := by
  intro l
  induction l with
  | nil => intro r e t M t' M' hl h; simp only [xS, Option.some.injEq, Prod.mk.injEq] at h; obtain ⟨rfl, rfl⟩ := h; exact ⟨hl, rfl⟩
  | cons o l ih =>
    intro r e t M t' M' hl h
    simp only [xS] at h
    simp only [wpS, hl.want, hl.aev]
    cases hd : dstLt k o.dst with
    | false => simp [hd] at h
    | true =>
      simp only [hd, cond_true] at h ⊢
      cases hw : wantT ops t o with
      | none => simp [hw] at h
      | some b =>
        cases b with
        | false =>
          simp only [hw] at h ⊢
          cases hk : kindOf P o <;> simp only [hk] at h ⊢ <;> exact ih _ _ _ _ _ _ (hl.put _ _) h
        | true =>
          simp only [hw] at h ⊢
          cases hk : kindOf P o with
          | pure => simp only [hk] at h ⊢; split at h <;> first | (rename_i v hv; simp only [hv]; exact ih _ _ _ _ _ _ (hl.put _ _) h) | (cases h)
          | read => simp only [hk] at h ⊢; split at h <;> first | (rename_i v hv; simp only [hv]; exact ih _ _ _ _ _ _ (hl.put _ _) h) | (cases h)
          | alloc => simp only [hk] at h ⊢; split at h <;> first | (rename_i b mk hv; simp only [hv]; exact ih _ _ _ _ _ _ (hl.put _ _) h) | (cases h)
          | eff => simp only [hk] at h ⊢; split at h <;> first | (rename_i v M₁ hv; simp only [hv]; exact ih _ _ _ _ _ _ (hl.put _ _) h) | (cases h)
          | call =>
            simp only [hk] at h ⊢
            split at h
            · rename_i f args hv
              simp only [hv]
              split at h
              · rename_i v M₁ hc; exact ⟨v, M₁, hcall _ _ _ _ _ hc, ih _ _ _ _ _ _ (hl.put _ _) h⟩
              · cases h
            · rename_i hv
              simp only [hv]
              split at h
              · rename_i v hx; exact ⟨v, M, (hext _ _ _ _ hx).1, (hext _ _ _ _ hx).2, ih _ _ _ _ _ _ (hl.put _ _) h⟩
              · cases h

def xLog (U : List (Nat × Nat)) (i : Nat) (f : Mem → Bool) : List (Nat × Mem) → Bool
  | [] => true
  | (j, B) :: l => (!(inP U i j) || f B) && xLog U i f l

/-- whether a read comes to the same again: values that can be compared -/
def same1 : Value → Value → Bool
  | .bool a, .bool b => a == b
  | .int k a, .int k' b => decide (k = k') && decide (a = b)
  | .string a, .string b => a.data.toList == b.data.toList
  | .pointer none, .pointer none => true
  | .pointer (some a), .pointer (some b) => decide (a = b)
  | .slice none n c, .slice none n' c' => Nat.beq n n' && Nat.beq c c'
  | .slice (some a) n c, .slice (some b) n' c' => decide (a = b) && Nat.beq n n' && Nat.beq c c'
  | .nilIface, .nilIface => true
  | .nilFunc, .nilFunc => true
  | .map a, .map b => decide (a = b)
  | _, _ => false
def sameL (f : Value → Value → Bool) : List Value → List Value → Bool
  | [], [] => true
  | a :: l, b :: m => f a b && sameL f l m
  | _, _ => false
def sameF : Nat → Value → Value → Bool
  | 0, _, _ => false
  | n + 1, .agg xs, .agg ys => sameL (sameF n) xs.toList ys.toList
  | n + 1, .tuple xs, .tuple ys => sameL (sameF n) xs.toList ys.toList
  | n + 1, .iface t v, .iface t' v' => Nat.beq t t' && sameF n v v'
  | n + 1, .func (.func g) xs ys, .func (.func g') xs' ys' => Nat.beq g g' && (sameL (sameF n) xs.toList xs'.toList && sameL (sameF n) ys.toList ys'.toList)
  | _ + 1, a, b => same1 a b
def sameV (a b : Value) : Bool := sameF 8 a b
theorem same1_eq {a b : Value} (h : same1 a b = true) : a = b := by
  unfold same1 at h
  split at h
  · simp at h; rw [h]
  · simp at h; rw [h.1, h.2]
  · rename_i a b
    have : a.data = b.data := by apply Array.ext'; simpa using h
    rw [ByteArray.ext this]
  · rfl
  · simp at h; rw [h]
  · simp [beq_iff] at h; rw [h.1, h.2]
  · simp [beq_iff] at h; rw [h.1.1, h.1.2, h.2]
  · rfl
  · rfl
  · simp at h; rw [h]
  · cases h
theorem sameL_eq {f : Value → Value → Bool} (hf : ∀ a b, f a b = true → a = b) : ∀ {a b : List Value}, sameL f a b = true → a = b
  | [], [], _ => rfl
  | [], _ :: _, h => by simp [sameL] at h
  | _ :: _, [], h => by simp [sameL] at h
  | a :: l, b :: m, h => by simp only [sameL, Bool.and_eq_true] at h; rw [hf _ _ h.1, sameL_eq hf h.2]
theorem sameF_eq : ∀ {n : Nat} {a b : Value}, sameF n a b = true → a = b
  | 0, _, _, h => by simp [sameF] at h
  | n + 1, a, b, h => by
    unfold sameF at h
    split at h
    · cases h
    · rename_i h1; cases h1; congr 1; apply Array.ext'; exact sameL_eq (fun _ _ => sameF_eq) h
    · rename_i h1; cases h1; congr 1; apply Array.ext'; exact sameL_eq (fun _ _ => sameF_eq) h
    · rename_i h1; cases h1; rw [Bool.and_eq_true] at h; rw [Nat.eq_of_beq_eq_true h.1, sameF_eq h.2]
    · rename_i h1
      cases h1
      simp only [Bool.and_eq_true] at h
      have e1 := Nat.eq_of_beq_eq_true h.1
      have e2 := Array.ext' (sameL_eq (fun _ _ => sameF_eq) h.2.1)
      have e3 := Array.ext' (sameL_eq (fun _ _ => sameF_eq) h.2.2)
      rw [e1, e2, e3]
    · exact same1_eq h
theorem sameV_eq {a b : Value} (h : sameV a b = true) : a = b := sameF_eq h
def isV (x : Option Value) (v : Value) : Bool := match x with
  | some u => sameV u v
  | none => false
theorem isV_eq {x : Option Value} {v : Value} (h : isV x v = true) : x = some v := by
  cases x with
  | none => cases h
  | some u => rw [sameV_eq h]

def xRl (P : Program) (U : List (Nat × Nat)) (j : Nat) (m : Mm) : List (Nat × Oper × Tr × Value) → Bool
  | [] => true
  | (i, o, e, v) :: l => (!(inP U i j) || isV (readV P (aevT e) m o) v) && xRl P U j m l

def xD (P : Program) (call : CallF) (ext : ExtF) (ops : Array Oper) (k n0 : Nat) (A U : List (Nat × Nat)) : List (Nat × Oper) → Nat → Tr → Mem → Mem → List (Nat × Nat × Blk) → List (Nat × Mem) → List (Nat × Oper × Tr × Value) → Option (Tr × Mem)
  | [], _, e, M, _, _, _, _ => some (e, M)
  | (i, o) :: l, r, e, M, B, al, log, rl => match wantT ops e o with
    | none => none
    | some false => match kindOf P o with
      | .alloc => xD P call ext ops k n0 A U l (r + 1) (e.put o.dst undef) M B al log rl
      | .eff => bif xRl P U i M.get rl then xD P call ext ops k n0 A U l r (e.put o.dst undef) M M [] ((i, B) :: log) rl else none
      | .call => bif xRl P U i M.get rl then xD P call ext ops k n0 A U l r (e.put o.dst undef) M M [] ((i, B) :: log) rl else none
      | _ => xD P call ext ops k n0 A U l r (e.put o.dst undef) M B al log rl
    | some true => match kindOf P o with
      | .pure => match pureV P (aevT e) o with
        | some v => xD P call ext ops k n0 A U l r (e.put o.dst v) M B al log rl
        | none => none
      | .read => match readV P (aevT e) (withA A al i B.get) o with
        | some v => bif xLog U i (fun B' => isV (readV P (aevT e) (withA A al i B'.get) o) v) log then xD P call ext ops k n0 A U l r (e.put o.dst v) M B al log ((i, o, e, v) :: rl) else none
        | none => none
      | .alloc => match allocA P (aevT e) o.op with
        | some (b, mk) => xD P call ext ops k n0 A U l (r + 1) (e.put o.dst (mk (n0 + r))) (M.put (n0 + r) b) B ((i, n0 + r, b) :: al) log rl
        | none => none
      | .eff => match effV P (aevT e) M o with
        | some (v, M') => bif xRl P U i M'.get rl then xD P call ext ops k n0 A U l r (e.put o.dst v) M' M' [] ((i, B) :: log) rl else none
        | none => none
      | .call => match callOf P (aevT e) o with
        | some (f, args) => match call f args M with
          | some (v, M') => bif xRl P U i M'.get rl then xD P call ext ops k n0 A U l r (e.put o.dst v) M' M' [] ((i, B) :: log) rl else none
          | none => none
        | none => match ext (aevT e) M o with
          | some v => bif xRl P U i M.get rl then xD P call ext ops k n0 A U l r (e.put o.dst v) M M [] ((i, B) :: log) rl else none
          | none => none

inductive LikeR : List (Nat × Oper × Env × Value) → List (Nat × Oper × Tr × Value) → Prop
  | nil : LikeR [] []
  | cons {i : Nat} {o : Oper} {e : Env} {t : Tr} {v : Value} {l : List (Nat × Oper × Env × Value)} {m : List (Nat × Oper × Tr × Value)} (h : Like e t) (h' : LikeR l m) : LikeR ((i, o, e, v) :: l) ((i, o, t, v) :: m)

theorem xRl_ok {P : Program} {U : List (Nat × Nat)} {j : Nat} {m : Mm} {l : List (Nat × Oper × Env × Value)} {l' : List (Nat × Oper × Tr × Value)} (hl : LikeR l l') (h : xRl P U j m l' = true) : allRl P U j m l := by
  induction hl with
  | nil => trivial
  | cons hlk _ ih =>
    simp only [xRl, Bool.and_eq_true, Bool.or_eq_true, Bool.not_eq_true'] at h
    refine ⟨fun hp => ?_, ih h.2⟩
    rw [hlk.aev]
    rcases h.1 with h1 | h1
    · rw [hp] at h1; cases h1
    · exact isV_eq h1
theorem xLog_ok {U : List (Nat × Nat)} {i : Nat} {f : Mem → Bool} {g : Mem → Prop} (hf : ∀ B, f B = true → g B) {l : List (Nat × Mem)} (h : xLog U i f l = true) : allLog U i g l := by
  induction l with
  | nil => trivial
  | cons x l ih =>
    obtain ⟨j, B⟩ := x
    simp only [xLog, Bool.and_eq_true, Bool.or_eq_true, Bool.not_eq_true'] at h
    refine ⟨fun hp => ?_, ih h.2⟩
    rcases h.1 with h1 | h1
    · rw [hp] at h1; cases h1
    · exact hf B h1

theorem xD_ok {P : Program} {call : CallF} {ext : ExtF} (hcall : ∀ f args M v M', call f args M = some (v, M') → ACall P f args M v M') (hext : ∀ ev M o v, ext ev M o = some v → Known ev o ∧ EffOk P o ev M v M) {ops : Array Oper} {k n0 : Nat} {A U : List (Nat × Nat)} : ∀ (l : List (Nat × Oper)) (r : Nat) (e : Env) (t : Tr) (M B : Mem) (al : List (Nat × Nat × Blk)) (log : List (Nat × Mem))
    (rl : List (Nat × Oper × Env × Value)) (rl' : List (Nat × Oper × Tr × Value)) (t' : Tr) (M' : Mem), Like e t → LikeR rl rl' → xD P call ext ops k n0 A U l r t M B al log rl' = some (t', M') → wpD P ops k n0 A U l r e M B al log rl fun e' M'' => Like e' t' ∧ M'' = M' := by
  intro l
  induction l with
  | nil => intro r e t M B al log rl rl' t' M' hl hr h; simp only [xD, Option.some.injEq, Prod.mk.injEq] at h; obtain ⟨rfl, rfl⟩ := h; exact ⟨hl, rfl⟩
  | cons p l ih =>
    intro r e t M B al log rl rl' t' M' hl hr h
    obtain ⟨i, o⟩ := p
    simp only [xD] at h
    simp only [wpD, hl.want, hl.aev]
    cases hw : wantT ops t o with
    | none => simp [hw] at h
    | some b =>
      cases b with
      | false =>
        simp only [hw] at h ⊢
        cases hk : kindOf P o with
        | alloc => simp only [hk] at h ⊢; exact ih _ _ _ _ _ _ _ _ _ _ _ (hl.put _ _) hr h
        | pure => simp only [hk] at h ⊢; exact ih _ _ _ _ _ _ _ _ _ _ _ (hl.put _ _) hr h
        | read => simp only [hk] at h ⊢; exact ih _ _ _ _ _ _ _ _ _ _ _ (hl.put _ _) hr h
        | eff =>
          simp only [hk] at h ⊢
          cases hx : xRl P U i M.get rl' with
          | false => simp [hx] at h
          | true => simp only [hx, cond_true] at h; exact ⟨xRl_ok hr hx, ih _ _ _ _ _ _ _ _ _ _ _ (hl.put _ _) hr h⟩
        | call =>
          simp only [hk] at h ⊢
          cases hx : xRl P U i M.get rl' with
          | false => simp [hx] at h
          | true => simp only [hx, cond_true] at h; exact ⟨xRl_ok hr hx, ih _ _ _ _ _ _ _ _ _ _ _ (hl.put _ _) hr h⟩
      | true =>
        simp only [hw] at h ⊢
        cases hk : kindOf P o with
        | pure => simp only [hk] at h ⊢; split at h <;> first | (rename_i v hv; simp only [hv]; exact ih _ _ _ _ _ _ _ _ _ _ _ (hl.put _ _) hr h) | (cases h)
        | read =>
          simp only [hk] at h ⊢
          split at h
          · rename_i v hv
            simp only [hv]
            cases hx : xLog U i (fun B' => isV (readV P (aevT t) (withA A al i B'.get) o) v) log with
            | false => simp [hx] at h
            | true =>
              simp only [hx, cond_true] at h
              exact ⟨xLog_ok (fun B hB => isV_eq hB) hx, ih _ _ _ _ _ _ _ _ _ _ _ (hl.put _ _) (.cons hl hr) h⟩
          · cases h
        | alloc => simp only [hk] at h ⊢; split at h <;> first | (rename_i b mk hv; simp only [hv]; exact ih _ _ _ _ _ _ _ _ _ _ _ (hl.put _ _) hr h) | (cases h)
        | eff =>
          simp only [hk] at h ⊢
          split at h
          · rename_i v M₁ hv
            simp only [hv]
            cases hx : xRl P U i M₁.get rl' with
            | false => simp [hx] at h
            | true => simp only [hx, cond_true] at h; exact ⟨xRl_ok hr hx, ih _ _ _ _ _ _ _ _ _ _ _ (hl.put _ _) hr h⟩
          · cases h
        | call =>
          simp only [hk] at h ⊢
          split at h
          · rename_i f args hv
            simp only [hv]
            split at h
            · rename_i v M₁ hc
              cases hx : xRl P U i M₁.get rl' with
              | false => simp [hx] at h
              | true => simp only [hx, cond_true] at h; exact ⟨v, M₁, hcall _ _ _ _ _ hc, xRl_ok hr hx, ih _ _ _ _ _ _ _ _ _ _ _ (hl.put _ _) hr h⟩
            · cases h
          · rename_i hv
            simp only [hv]
            split at h
            · rename_i v hxv
              cases hx : xRl P U i M.get rl' with
              | false => simp [hx] at h
              | true => simp only [hx, cond_true] at h; exact ⟨v, M, (hext _ _ _ _ hxv).1, (hext _ _ _ _ hxv).2, xRl_ok hr hx, ih _ _ _ _ _ _ _ _ _ _ _ (hl.put _ _) hr h⟩
            · cases h

/-! ### the whole machine -/
structure Row where
  fn : Nat
  id : Nat
  ord : List Nat
  msk : List Nat
  A : List (Nat × Nat)
  U : List (Nat × Nat)
def rowOf (fn id : Nat) : List Row → Option Row
  | [] => none
  | r :: l => bif Nat.beq r.fn fn && Nat.beq r.id id then some r else rowOf fn id l

structure TSt where
  env : Tr
  mem : Mem
  dfr : List Dfr
/-- code; a call; an iterator of which the loop runs no round; a deferred call -/
structure X where
  code : Nat → Nat → Code → TSt → Option (Exit × TSt)
  call : CallF
  seq : FuncId → Array Value → Mem → Option Mem
  dfc : FuncId → Array Value → Mem → Option Mem
  sco : Nat → Nat → Code → Code → TSt → Option (Exit × TSt)

def argTr : Nat → List Value → Tr → Tr
  | _, [], t => t
  | i, v :: l, t => argTr (i + 1) l (t.put (some i) v)
def resT (P : Program) (s : TSt) : List ResultVar → Option (List Value)
  | [] => some []
  | .tmp t :: l => match s.env.get t, resT P s l with
    | some v, some vs => some (v :: vs)
    | _, _ => none
  | .cell a t :: l => match s.env.get a with
    | some x => match loadV P s.mem.get t x, resT P s l with
      | some v, some vs => some (v :: vs)
      | _, _ => none
    | none => none
def retT (P : Program) (rs : List ResultVar) (s : TSt) : Option Value := match resT P s rs with
  | some [v] => some v
  | some vs => some (.tuple vs.toArray)
  | none => none

def xCode (P : Program) (tab : List Row) (ext : ExtF) (x : X) (f k : Nat) (c : Code) (s : TSt) : Option (Exit × TSt) := match c with
  | .skip => some (.normal, s)
  | .label _ => some (.normal, s)
  | .exit id => some (.exit id, s)
  | .ret => some (.ret, s)
  | .goto l => some (.goto l, s)
  | .scope b => x.sco f k b b s
  | .seq a b => match x.code f k a s with
    | some (.normal, s') => x.code f k b s'
    | r => r
  | .cond c a b => match aevT s.env c with
    | some (.bool t) => x.code f k (bif t then a else b) s
    | _ => none
  | .block id b => match x.code f k b s with
    | some (.exit j, s') => some (bif Nat.beq j id then .normal else .exit j, s')
    | r => r
  | .loop b => match x.code f k b s with
    | some (.normal, s') => x.code f k (.loop b) s'
    | r => r
  | .region id ops draw => bif draw then match rowOf f id tab with
      | some r => match xD P x.call ext ops k s.mem.next r.A r.U (r.ord.map fun i => (i, opAt ops i)) 0 s.env (s.mem.bump (nAl P (r.ord.map fun i => opAt ops i))) (s.mem.bump (nAl P (r.ord.map fun i => opAt ops i))) [] [] [] with
        | some (t, M) => some (.normal, ⟨t, M, s.dfr⟩)
        | none => none
      | none => none
    else match deferOf ops with
      | none => match xS P x.call ext ops k s.mem.next ops.toList 0 s.env (s.mem.bump (nAl P ops.toList)) with
        | some (t, M) => some (.normal, ⟨t, M, s.dfr⟩)
        | none => none
      | some (l, o, y) => bif dstLt k o.dst then match xS P x.call ext ops k s.mem.next l 0 s.env (s.mem.bump (nAl P l)) with
        | some (t, M) => match aevT t y with
          | some (.func (.func g) xs cap) => bif xs.isEmpty then some (.normal, ⟨t.put o.dst undef, M, .fn g cap :: s.dfr⟩) else none
          | _ => none
        | none => none
        else none
  | .rangeFunc g _ _ _ => match aevT s.env g with
    | some (.func (.func gf) xs lb) => bif xs.isEmpty && callable P gf then match x.seq gf lb s.mem with
        | some M => some (.normal, ⟨s.env, M, .coll :: s.dfr⟩)
        | none => none
      else none
    | _ => none
  | _ => none
/-- a scope's code from a label on -/
def xSco (x : X) (f k : Nat) (c d : Code) (s : TSt) : Option (Exit × TSt) := match x.code f k d s with
  | some (.goto l, s') => match findLabel c l with
    | some rest => x.sco f k c rest s'
    | none => none
  | r => r
/-- the frame's end: its deferred calls, its results -/
def xLeave (P : Program) (x : X) (rs : List ResultVar) (s : TSt) : Option (Value × Mem) := match s.dfr with
  | [] => (retT P rs s).map fun v => (v, s.mem)
  | [.coll] => (retT P rs s).map fun v => (v, s.mem)
  | [.fn f cap] => bif callable P f then match x.dfc f cap s.mem with
      | some M => (retT P rs ⟨s.env, M, []⟩).map fun v => (v, M)
      | none => none
    else none
  | _ => none
/-- a body, from what it is handed (from place i on) -/
def xBody (P : Program) (x : X) (i : Nat) : CallF := fun f args M => match P.funcs[f]? with
  | some fn => match fn.body with
    | some c => bif decide (i + args.size ≤ fn.ntmps) then match x.code f fn.ntmps c ⟨argTr i args.toList .nil, M, []⟩ with
        | some (.normal, s) => xLeave P x fn.results.toList s
        | some (.ret, s) => xLeave P x fn.results.toList s
        | _ => none
      else none
    | none => none
  | none => none
/-- a body without deferred calls -/
def xPlain (P : Program) (x : X) (f : FuncId) (args : Array Value) (M : Mem) : Option Mem := match P.funcs[f]? with
  | some fn => match fn.body with
    | some c => bif decide (args.size ≤ fn.ntmps) then match x.code f fn.ntmps c ⟨argTr 0 args.toList .nil, M, []⟩ with
        | some (.normal, s) => bif s.dfr.isEmpty && (retT P fn.results.toList s).isSome then some s.mem else none
        | some (.ret, s) => bif s.dfr.isEmpty && (retT P fn.results.toList s).isSome then some s.mem else none
        | _ => none
      else none
    | none => none
  | none => none
def X.at (P : Program) (tab : List Row) (ext : ExtF) (ov : CallF) : Nat → X
  | 0 => ⟨fun _ _ _ _ => none, fun _ _ _ => none, fun _ _ _ => none, fun _ _ _ => none, fun _ _ _ _ _ => none⟩
  | n + 1 => ⟨fun f k c s => xCode P tab ext (X.at P tab ext ov n) f k c s, fun f args M => match ov f args M with
    | some r => some r
    | none => xBody P (X.at P tab ext ov n) 0 f args M,
    fun f lb M => (xBody P (X.at P tab ext ov n) 1 f lb M).map (·.2), fun f args M => xPlain P (X.at P tab ext ov n) f args M, fun f k c d s => xSco (X.at P tab ext ov n) f k c d s⟩

/-- each region that draws its order is as its row says -/
def codeOk (P : Program) (tab : List Row) (f k : Nat) : Code → Bool
  | .seq a b => codeOk P tab f k a && codeOk P tab f k b
  | .cond _ a b => codeOk P tab f k a && codeOk P tab f k b
  | .block _ b => codeOk P tab f k b
  | .scope b => codeOk P tab f k b
  | .loop b => codeOk P tab f k b
  | .region id ops draw => bif draw then match rowOf f id tab with
      | some r => okReg P k ops r.ord r.msk r.A r.U
      | none => true
    else true
  | _ => true
def progOk (P : Program) (tab : List Row) : Bool := tab.all fun r => match P.funcs[r.fn]? with
  | some fn => match fn.body with
    | some c => codeOk P tab r.fn fn.ntmps c
    | none => true
  | none => true
end Go.Proofs.YtopblipficpilaaGreatDoor.AY
