/- The layer: the quick machine: its environment, its lists, its memory are the slower one's. -/
import Derived.Test.YtopblipficpilaaGreatDoorBulkPuts10
import Derived.Test.YtopblipficpilaaGreatDoorBulkPuts4
namespace Go.Proofs.YtopblipficpilaaGreatDoor.AY
open Go
set_option linter.unusedVariables false
set_option linter.unusedSimpArgs false

theorem orec_some {α : Type} {d : Ans} {r : Value × Mem} {k : α → Ans} {o : Option α} (h : Option.rec (motive := fun _ => Ans) d k o = some r) : (o = none ∧ d = some r) ∨ ∃ v, o = some v ∧ k v = some r := by
  cases o with
  | none => exact .inl ⟨rfl, h⟩
  | some v => exact .inr ⟨v, rfl, h⟩
theorem brec_some {x y : Ans} {r : Value × Mem} {b : Bool} (h : Bool.rec (motive := fun _ => Ans) x y b = some r) : (b = false ∧ x = some r) ∨ (b = true ∧ y = some r) := by
  cases b with
  | false => exact .inl ⟨rfl, h⟩
  | true => exact .inr ⟨rfl, h⟩

/-! ### the environment -/
def L8.put (l : L8) (i : Nat) (v : Option Value) : L8 := match i with
  | 0 => ⟨v, l.v1, l.v2, l.v3, l.v4, l.v5, l.v6, l.v7⟩
  | 1 => ⟨l.v0, v, l.v2, l.v3, l.v4, l.v5, l.v6, l.v7⟩
  | 2 => ⟨l.v0, l.v1, v, l.v3, l.v4, l.v5, l.v6, l.v7⟩
  | 3 => ⟨l.v0, l.v1, l.v2, v, l.v4, l.v5, l.v6, l.v7⟩
  | 4 => ⟨l.v0, l.v1, l.v2, l.v3, v, l.v5, l.v6, l.v7⟩
  | 5 => ⟨l.v0, l.v1, l.v2, l.v3, l.v4, v, l.v6, l.v7⟩
  | 6 => ⟨l.v0, l.v1, l.v2, l.v3, l.v4, l.v5, v, l.v7⟩
  | 7 => ⟨l.v0, l.v1, l.v2, l.v3, l.v4, l.v5, l.v6, v⟩
  | _ => l
def Ev.putL (t : Ev) (i : Nat) (l : L8) : Ev := match i with
  | 0 => ⟨l, t.c1, t.c2, t.c3, t.c4, t.c5, t.c6, t.c7, t.hi⟩
  | 1 => ⟨t.c0, l, t.c2, t.c3, t.c4, t.c5, t.c6, t.c7, t.hi⟩
  | 2 => ⟨t.c0, t.c1, l, t.c3, t.c4, t.c5, t.c6, t.c7, t.hi⟩
  | 3 => ⟨t.c0, t.c1, t.c2, l, t.c4, t.c5, t.c6, t.c7, t.hi⟩
  | 4 => ⟨t.c0, t.c1, t.c2, t.c3, l, t.c5, t.c6, t.c7, t.hi⟩
  | 5 => ⟨t.c0, t.c1, t.c2, t.c3, t.c4, l, t.c6, t.c7, t.hi⟩
  | 6 => ⟨t.c0, t.c1, t.c2, t.c3, t.c4, t.c5, l, t.c7, t.hi⟩
  | 7 => ⟨t.c0, t.c1, t.c2, t.c3, t.c4, t.c5, t.c6, l, t.hi⟩
  | _ => t
theorem L8.at_put (l : L8) (v : Option Value) : ∀ i j, i < 8 → j < 8 → (l.put i v).at j = if j = i then v else l.at j := by
  intro i j hi hj
  have : i = 0 ∨ i = 1 ∨ i = 2 ∨ i = 3 ∨ i = 4 ∨ i = 5 ∨ i = 6 ∨ i = 7 := by omega
  have : j = 0 ∨ j = 1 ∨ j = 2 ∨ j = 3 ∨ j = 4 ∨ j = 5 ∨ j = 6 ∨ j = 7 := by omega
  rcases ‹i = 0 ∨ _› with rfl | rfl | rfl | rfl | rfl | rfl | rfl | rfl <;> rcases ‹j = 0 ∨ _› with rfl | rfl | rfl | rfl | rfl | rfl | rfl | rfl <;> rfl
theorem Ev.leaf_put (t : Ev) (l : L8) : ∀ i j, i < 8 → j < 8 → (t.putL i l).leaf j = if j = i then l else t.leaf j := by
  intro i j hi hj
  have : i = 0 ∨ i = 1 ∨ i = 2 ∨ i = 3 ∨ i = 4 ∨ i = 5 ∨ i = 6 ∨ i = 7 := by omega
  have : j = 0 ∨ j = 1 ∨ j = 2 ∨ j = 3 ∨ j = 4 ∨ j = 5 ∨ j = 6 ∨ j = 7 := by omega
  rcases ‹i = 0 ∨ _› with rfl | rfl | rfl | rfl | rfl | rfl | rfl | rfl <;> rcases ‹j = 0 ∨ _› with rfl | rfl | rfl | rfl | rfl | rfl | rfl | rfl <;> rfl
theorem Ev.hi_put (t : Ev) (l : L8) : ∀ i, i < 8 → (t.putL i l).hi = t.hi := by
  intro i hi
  have : i = 0 ∨ i = 1 ∨ i = 2 ∨ i = 3 ∨ i = 4 ∨ i = 5 ∨ i = 6 ∨ i = 7 := by omega
  rcases this with rfl | rfl | rfl | rfl | rfl | rfl | rfl | rfl <;> rfl
def Ev.put (t : Ev) (s : Nat) (v : Value) : Ev := bif Nat.ble (s + 1) 64 then t.putL (s / 8) ((t.leaf (s / 8)).put (s % 8) (some v)) else { t with hi := t.hi.set (s - 64 + 1) (s - 64) (some v) }
theorem ble_iff (a b : Nat) : Nat.ble a b = decide (a ≤ b) := by
  by_cases h : a ≤ b
  · simp [h]
  · cases hh : Nat.ble a b with
    | false => simp [h]
    | true => exact absurd (Nat.le_of_ble_eq_true hh) h
theorem Ev.get_put (t : Ev) (s r : Nat) (v : Value) : (t.put s v).get r = if r = s then some v else t.get r := by
  unfold Ev.put Ev.get
  simp only [ble_iff, Bool.cond_decide]
  by_cases hs : s + 1 ≤ 64
  · simp only [hs, if_true]
    by_cases hr : r + 1 ≤ 64
    · simp only [hr, if_true]
      rw [Ev.leaf_put _ _ _ _ (by omega) (by omega)]
      by_cases h8 : r / 8 = s / 8
      · simp only [h8, if_true]
        rw [L8.at_put _ _ _ _ (by omega) (by omega)]
        by_cases hm : r % 8 = s % 8
        · have : r = s := by omega
          simp [hm, this]
        · have : r ≠ s := by rintro rfl; exact hm rfl
          simp [hm, this]
      · have : r ≠ s := by rintro rfl; exact h8 rfl
        simp [h8, this]
    · have : r ≠ s := by omega
      simp only [hr, if_false, this]
      rw [Ev.hi_put _ _ _ (by omega)]
  · simp only [hs, if_false]
    by_cases hr : r + 1 ≤ 64
    · have : r ≠ s := by omega
      simp only [hr, if_true, this, if_false]
      have : r / 8 = 0 ∨ r / 8 = 1 ∨ r / 8 = 2 ∨ r / 8 = 3 ∨ r / 8 = 4 ∨ r / 8 = 5 ∨ r / 8 = 6 ∨ r / 8 = 7 := by omega
      rcases this with h | h | h | h | h | h | h | h <;> simp only [h, Ev.leaf]
    · simp only [hr, if_false]
      rw [Tr.get_set _ _ _ _ _ (Nat.lt_succ_self _)]
      have : (r - 64 = s - 64) ↔ r = s := by omega
      simp [this]
theorem Ev.get_nil (s : Nat) : Ev.nil.get s = none := by
  unfold Ev.get
  simp only [ble_iff, Bool.cond_decide]
  by_cases hr : s + 1 ≤ 64
  · simp only [hr, if_true]
    have : s / 8 = 0 ∨ s / 8 = 1 ∨ s / 8 = 2 ∨ s / 8 = 3 ∨ s / 8 = 4 ∨ s / 8 = 5 ∨ s / 8 = 6 ∨ s / 8 = 7 := by omega
    have : s % 8 = 0 ∨ s % 8 = 1 ∨ s % 8 = 2 ∨ s % 8 = 3 ∨ s % 8 = 4 ∨ s % 8 = 5 ∨ s % 8 = 6 ∨ s % 8 = 7 := by omega
    rcases ‹s / 8 = 0 ∨ _› with h | h | h | h | h | h | h | h <;> rcases ‹s % 8 = 0 ∨ _› with h' | h' | h' | h' | h' | h' | h' | h' <;> simp only [h, h'] <;> rfl
  · simp only [hr, if_false]; rfl

theorem lDrop_succ {α : Type} (l : List α) (n : Nat) : lDrop l (n + 1) = (lDrop l n).tail := by
  show List.rec (motive := fun _ => List α) [] (fun _ t _ => t) (lDrop l n) = _
  cases lDrop l n <;> rfl
theorem lDrop_eq {α : Type} (l : List α) : ∀ n, lDrop l n = l.drop n
  | 0 => rfl
  | n + 1 => by rw [lDrop_succ, lDrop_eq l n, List.tail_drop]
theorem headD_eq {α : Type} (d : α) (l : List α) : headD d l = l.head?.getD d := by cases l <;> rfl

def isGet (n : Nat) (g : G) : Prop := ∀ (st : List Value) (t : Ev) (k : KV), g.run st t k = Option.rec (motive := fun _ => Ans) none k (t.get n)
def isPut (n : Nat) (s : S0) : Prop := ∀ (t : Ev) (v : Value), s.run t v = t.put n v
def allGet : Nat → List G → Prop
  | _, [] => True
  | n, g :: l => isGet n g ∧ allGet (n + 1) l
def allPut : Nat → List S0 → Prop
  | _, [] => True
  | n, g :: l => isPut n g ∧ allPut (n + 1) l
theorem gTab_ok : allGet 0 gTab := by
  unfold gTab
  repeat' (first | (refine ⟨fun st t k => rfl, ?_⟩) | exact trivial)
theorem sTab_ok : allPut 0 sTab := by
  unfold sTab
  repeat' (first | (refine ⟨fun t v => rfl, ?_⟩) | exact trivial)
theorem allGet.at : ∀ {l : List G} {n i : Nat} {g : G}, allGet n l → l[i]? = some g → isGet (n + i) g
  | [], _, _, _, _, h => by simp at h
  | x :: l, n, 0, g, h, hi => by simp at hi; subst hi; exact h.1
  | x :: l, n, i + 1, g, h, hi => by
    have := allGet.at (i := i) h.2 (by simpa using hi)
    rwa [show n + (i + 1) = n + 1 + i by omega]
theorem allPut.at : ∀ {l : List S0} {n i : Nat} {g : S0}, allPut n l → l[i]? = some g → isPut (n + i) g
  | [], _, _, _, _, h => by simp at h
  | x :: l, n, 0, g, h, hi => by simp at hi; subst hi; exact h.1
  | x :: l, n, i + 1, g, h, hi => by
    have := allPut.at (i := i) h.2 (by simpa using hi)
    rwa [show n + (i + 1) = n + 1 + i by omega]
theorem head_at {α : Type} (d : α) (l : List α) {i : Nat} (h : i < l.length) : l[i]? = some (headD d (lDrop l i)) := by
  rw [headD_eq, lDrop_eq, List.head?_drop]
  rw [List.getElem?_eq_getElem h]
  rfl
theorem gEnv_eq (s : Nat) (st : List Value) (t : Ev) (k : KV) : (gEnv s).run st t k = Option.rec (motive := fun _ => Ans) none k (t.get s) := by
  unfold gEnv
  cases hb : Nat.ble (Nat.succ s) 64 with
  | true =>
    have hs : s < 64 := Nat.le_of_ble_eq_true hb
    have := allGet.at gTab_ok (head_at gNo gTab (i := s) (by exact hs))
    rw [Nat.zero_add] at this
    exact this st t k
  | false =>
    show (gHi (s - 64)).run st t k = _
    unfold gHi Ev.get
    rw [show Nat.ble (s + 1) 64 = false from hb]
    rfl
theorem sEnv0_eq (s : Nat) (t : Ev) (v : Value) : (sEnv0 s).run t v = t.put s v := by
  unfold sEnv0
  cases hb : Nat.ble (Nat.succ s) 64 with
  | true =>
    have hs : s < 64 := Nat.le_of_ble_eq_true hb
    have := allPut.at sTab_ok (head_at (⟨fun t _ => t⟩ : S0) sTab (i := s) (by exact hs))
    rw [Nat.zero_add] at this
    exact this t v
  | false =>
    show (sHi (s - 64)).run t v = _
    unfold sHi Ev.put
    rw [show Nat.ble (s + 1) 64 = false from hb]
    rfl

theorem sEnv_eq (s : Nat) (t : Ev) (v : Value) : (sEnv s).run t v = t.put s v := sEnv0_eq s t v
theorem lHead_some {d : Ans} {r : Value × Mem} {k : KV} {l : List Value} (h : lHead d k l = some r) : (l = [] ∧ d = some r) ∨ ∃ v, l.head? = some v ∧ k v = some r := by
  cases l with
  | nil => exact .inl ⟨rfl, h⟩
  | cons v l => exact .inr ⟨v, rfl, h⟩
theorem stAt_some : ∀ {n : Nat} {st : List Value} {k : KV} {r : Value × Mem}, stAt n st k = some r → ∃ v, st[n]? = some v ∧ k v = some r
  | 0, st, k, r, h => by
    cases st with
    | nil => cases h
    | cons v st => exact ⟨v, rfl, h⟩
  | n + 1, st, k, r, h => by
    cases st with
    | nil => cases h
    | cons v st => exact stAt_some (n := n) (st := st) h
theorem gStk_some {n : Nat} {st : List Value} {t : Ev} {k : KV} {r : Value × Mem} (h : (gStk n).run st t k = some r) : ∃ v, st[n]? = some v ∧ k v = some r := by
  match n with
  | 0 => cases st with
    | nil => cases h
    | cons v st => exact ⟨v, rfl, h⟩
  | 1 => match st with
    | [] => cases h
    | [_] => cases h
    | _ :: v :: _ => exact ⟨v, rfl, h⟩
  | 2 => match st with
    | [] => cases h
    | [_] => cases h
    | [_, _] => cases h
    | _ :: _ :: v :: _ => exact ⟨v, rfl, h⟩
  | 3 => match st with
    | [] => cases h
    | [_] => cases h
    | [_, _] => cases h
    | [_, _, _] => cases h
    | _ :: _ :: _ :: v :: _ => exact ⟨v, rfl, h⟩
  | n + 4 => exact stAt_some (n := n + 4) h
theorem spot_loc : ∀ {ds : List (Option Nat)} {st : List Value} {s n : Nat} {v : Value}, spot s ds = some n → st[n]? = some v → locGet ds st s = some v
  | [], _, _, _, _, h, _ => by cases h
  | some d :: ds, st, s, n, v, h, hv => by
    simp only [spot] at h
    cases hb : Nat.beq d s with
    | true =>
      simp only [hb, cond_true, Option.some.injEq] at h; subst h
      cases st with
      | nil => simp at hv
      | cons u st => simp at hv; subst hv; simp [locGet, hb]
    | false =>
      simp only [hb, cond_false] at h
      cases hp : spot s ds with
      | none => simp [hp] at h
      | some m =>
        simp only [hp, Option.map_some, Option.some.injEq] at h; subst h
        cases st with
        | nil => simp at hv
        | cons u st => simp only [locGet, hb, cond_false]; exact spot_loc hp (by simpa using hv)
  | none :: ds, st, s, n, v, h, hv => by
    simp only [spot] at h
    cases hp : spot s ds with
    | none => simp [hp] at h
    | some m =>
      simp only [hp, Option.map_some, Option.some.injEq] at h; subst h
      cases st with
      | nil => simp at hv
      | cons u st => simp only [locGet]; exact spot_loc hp (by simpa using hv)
theorem zOp_some {ds : List (Option Nat)} {x : Operand} {st : List Value} {t : Ev} {k : KV} {r : Value × Mem} (h : (zOp ds x).run st t k = some r) : ∃ v, evS ds st t x = some v ∧ k v = some r := by
  cases x with
  | tmp s =>
    simp only [zOp, zTmp] at h
    simp only [evS]
    cases hp : spot s ds with
    | none =>
      simp only [hp] at h
      rw [gEnv_eq] at h
      rcases orec_some h with ⟨_, h⟩ | h
      · cases h
      · exact h
    | some n =>
      simp only [hp] at h
      obtain ⟨v, h1, h2⟩ := gStk_some h
      exact ⟨v, spot_loc hp h1, h2⟩
  | const v =>
    simp only [zOp] at h
    cases hp : plain v with
    | false => simp only [hp] at h; cases h
    | true => simp only [hp] at h; exact ⟨v, by simp [evS, hp], h⟩
  | global g => cases h
  | func f => exact ⟨_, rfl, h⟩

/-! ### what is known, of all that is -/
def Loc (ds : List (Option Nat)) (st : List Value) (e : Env) : Prop := ∀ s v, locGet ds st s = some v → e.get s = some v
def Under (K : Nat) (e : Env) (t : Ev) : Prop := ∀ s v, t.get s = some v → e.get s = some v ∧ K.testBit s = true
def EvSub (f g : Operand → Option Value) : Prop := ∀ x v, f x = some v → g x = some v
theorem evS_sub {K : Nat} {ds : List (Option Nat)} {st : List Value} {e : Env} {t : Ev} (hl : Loc ds st e) (hu : Under K e t) : EvSub (evS ds st t) (AY.aev e) := by
  intro x v h
  cases x with
  | tmp s =>
    simp only [evS] at h
    split at h
    · exact hl s v h
    · exact (hu s v h).1
  | const v => exact h
  | global g => exact h
  | func f => exact h
theorem zDst_put {K : Nat} {d : Option Nat} {t : Ev} {v : Value} {e : Env} (hu : Under K e t) : Under K (e.put d v) ((zDst K d).run t v) := by
  intro s u h
  cases d with
  | none => exact hu s u h
  | some d =>
    simp only [zDst] at h
    rw [Env.get_put]
    cases hk : Nat.testBit K d with
    | false =>
      simp only [hk] at h
      obtain ⟨h1, h2⟩ := hu s u h
      have : d ≠ s := by rintro rfl; rw [hk] at h2; cases h2
      simp [this, h1, h2]
    | true =>
      simp only [hk] at h
      rw [sEnv_eq, Ev.get_put] at h
      by_cases hs : s = d
      · subst hs; simp at h; subst h; simp [hk]
      · simp only [hs, if_false] at h
        obtain ⟨h1, h2⟩ := hu s u h
        simp [Ne.symm hs, h1, h2]
theorem zPut_dst {K : Nat} {d : Option Nat} {kk : KT} {b : Nat} {st : List Value} {t : Ev} {M : Mem} {v : Value} : zPut (zDst K d) kk b st t M v = kk b (v :: st) ((zDst K d).run t v) M := by
  cases d with
  | none => rfl
  | some d =>
    simp only [zDst]
    cases Nat.testBit K d <;> rfl
theorem Loc.put {ds : List (Option Nat)} {st : List Value} {e : Env} (hl : Loc ds st e) (d : Option Nat) (v : Value) : Loc (d :: ds) (v :: st) (e.put d v) := by
  intro s u h
  rw [Env.get_put]
  cases d with
  | none => simp only [locGet] at h; simp; exact hl s u h
  | some d =>
    simp only [locGet, beq_iff, Bool.cond_decide] at h
    by_cases hs : d = s
    · subst hs; simp at h; subst h; simp
    · simp only [hs, if_false] at h; simp [hs]; exact hl s u h
theorem Loc.nil (e : Env) : Loc [] [] e := fun s v h => by simp [locGet] at h

/-! ### memory -/
theorem tGet_eq : ∀ (t : Tri) (k : Nat), tGet t k = t.get k := by
  intro t
  induction t with
  | nil => intro k; rfl
  | node l v r ihl ihr =>
    intro k
    show Bool.rec (motive := fun _ => Option Blk) (Bool.rec (motive := fun _ => Option Blk) (tGet r (k / 2 - 1)) (tGet l (k / 2)) (Nat.beq (k % 2) 1)) v (Nat.beq k 0) = _
    rw [ihl, ihr]
    simp only [Tri.get]
    cases Nat.beq k 0 <;> cases Nat.beq (k % 2) 1 <;> rfl
theorem tSet_eq : ∀ (f : Nat) (t : Tri) (k : Nat) (b : Option Blk), tSet f t k b = t.set f k b := by
  intro f
  induction f with
  | zero => intro t k b; rfl
  | succ f ih =>
    intro t k b
    cases t with
    | nil =>
      show Bool.rec (motive := fun _ => Tri) (Bool.rec (motive := fun _ => Tri) (.node .nil none (tSet f .nil (k / 2 - 1) b)) (.node (tSet f .nil (k / 2) b) none .nil) (Nat.beq (k % 2) 1)) (.node .nil b .nil) (Nat.beq k 0) = _
      rw [ih, ih]
      simp only [Tri.set]
      cases Nat.beq k 0 <;> cases Nat.beq (k % 2) 1 <;> rfl
    | node l v r =>
      show Bool.rec (motive := fun _ => Tri) (Bool.rec (motive := fun _ => Tri) (.node l v (tSet f r (k / 2 - 1) b)) (.node (tSet f l (k / 2) b) v r) (Nat.beq (k % 2) 1)) (.node l b r) (Nat.beq k 0) = _
      rw [ih, ih]
      simp only [Tri.set]
      cases Nat.beq k 0 <;> cases Nat.beq (k % 2) 1 <;> rfl
theorem mPut_eq (M : Mem) (i : Nat) (b : Blk) : mPut M i b = M.put i b := by
  rw [Mem.put_eq]
  show Mem.mk M.next (tSet (Nat.succ i) M.tri i (some b)) = _
  rw [tSet_eq]
theorem lSet_eq (v : Value) : ∀ (l : List Value) (n : Nat), n < l.length → lSet v l n = splice l n [v]
  | [], _, h => by simp at h
  | c :: l, 0, _ => by simp [splice]; rfl
  | c :: l, n + 1, h => by
    show c :: lSet v l n = _
    rw [lSet_eq v l n (by simpa using h)]
    simp [splice, Nat.add_comm, Nat.add_left_comm]
theorem zRow_some {d : Ans} {r : Value × Mem} {f : List Value → TypeId → Bool → Ans} {M : Mem} {b : Nat} (h : zRow d f M b = some r) : d = some r ∨ ∃ blk, rowsOf M.get b = some blk ∧ f blk.cells blk.elem blk.rw = some r := by
  have h : (Option.rec (motive := fun _ => Ans → (List Value → TypeId → Bool → Ans) → Ans) (fun d _ => d) (fun x d f => Blk.rec (motive := fun _ => Ans → (List Value → TypeId → Bool → Ans) → Ans) (fun cs e rw d f => Bool.rec (motive := fun _ => Ans) (f cs e rw) d (Nat.ble mapTag e)) x d f) (tGet M.tri b) d f : Ans) = some r := h
  rw [tGet_eq] at h
  cases hb : M.tri.get b with
  | none => rw [hb] at h; exact .inl h
  | some blk =>
    rw [hb] at h
    have h : Bool.rec (motive := fun _ => Ans) (f blk.cells blk.elem blk.rw) d (Nat.ble mapTag blk.elem) = some r := h
    rcases brec_some h with ⟨h2, h⟩ | ⟨_, h⟩
    · refine .inr ⟨blk, ?_, h⟩
      unfold rowsOf
      rw [show M.get b = some blk from hb]
      simp only [isObj, h2, cond_false]
    · exact .inl h
theorem headO {α : Type} (l : List α) (i : Nat) : (List.rec (motive := fun _ => Option α) none (fun a _ _ => some a) (lDrop l i) : Option α) = l[i]? := by
  rw [← List.head?_drop, ← lDrop_eq]
  cases lDrop l i <;> rfl
theorem infoZ_eq (P : Program) (t : TypeId) : infoZ P t = P.info? t := by
  have key : ∀ l : List TypeInfo, l = lDrop P.types.toList t → (List.rec (motive := fun _ => Option TypeInfo) (P.info? t) (fun a _ _ => some a) l : Option TypeInfo) = P.info? t := by
    intro l hl
    cases l with
    | nil => rfl
    | cons a l =>
      have h1 : P.types.toList[t]? = some a := by rw [← List.head?_drop, ← lDrop_eq, ← hl]; rfl
      have h2 : P.types[t]? = some a := by simpa using h1
      have h3 : t < P.types.size := (Array.getElem?_eq_some_iff.1 h2).1
      show some a = Tables.info? P.toTables t
      unfold Tables.info?
      rw [if_pos h3, h2]
  exact key _ rfl
theorem underZ_eq (P : Program) (t : TypeId) : underZ P t = P.underlying t := by
  unfold underZ Program.underlying
  simp only [infoZ_eq]
  rfl
theorem zeroZ_eq (P : Program) (t : TypeId) : zeroZ P t = zeroC P t := by unfold zeroZ zeroC; simp only [infoZ_eq]; rfl
theorem kindZ_eq (P : Program) (o : Oper) : kindZ P o = kindOf P o := by unfold kindZ kindOf; simp only [underZ_eq]; rfl
theorem nAlZ_eq (P : Program) : ∀ l, nAlZ P l = nAl P l
  | [] => rfl
  | o :: l => by
    show Kind.rec (motive := fun _ => Nat) (nAlZ P l) (nAlZ P l) (Nat.succ (nAlZ P l)) (nAlZ P l) (nAlZ P l) (kindZ P o) = _
    rw [nAlZ_eq P l, kindZ_eq]
    simp only [nAl]
    cases kindOf P o <;> rfl
theorem opZ_eq (ops : Array Oper) (i : Nat) : opZ ops i = opAt ops i := by
  unfold opZ opAt
  rw [show ops[i]? = ops.toList[i]? by simp, ← List.head?_drop, ← lDrop_eq]
  cases lDrop ops.toList i <;> rfl
theorem funZ_eq (P : Program) (f : Nat) : funZ P f = P.funcs[f]? := by
  show (List.rec (motive := fun _ => Option Func) none (fun a _ _ => some a) (lDrop P.funcs.toList f) : Option Func) = _
  rw [headO]; simp
theorem callableZ_eq (P : Program) (f : FuncId) : callableZ P f = callable P f := by unfold callableZ callable; rw [funZ_eq]; rfl
end Go.Proofs.YtopblipficpilaaGreatDoor.AY
