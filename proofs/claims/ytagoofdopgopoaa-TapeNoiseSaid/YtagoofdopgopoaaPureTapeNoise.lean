/- TapeNoise: the bytes of any number, as many as are wished; fewer are the first ones of more. -/
import Derived.Test.YtagoofdopgopoaaPTapeNoisex3
import Derived.Laws.BitsLemmas
import Derived.Laws.Strings
import Derived.Lib.SmallJoins
namespace Go.Proofs.Ytagoofdopgopoaa.Pure
open Go.RowKit Go.Proofs.Ytagoofdopgopoaa.PTapeNoise Go.Proofs.YtagoofdopgopoaaW.PrintWords Go.Proofs.YtagoofdopgopoaaW.PrintLast Go.Proofs.YtagoofdopgopoaaW.PrintMore
set_option linter.unusedVariables false
set_option linter.unusedSimpArgs false
/-! #### bytes and numbers -/
def IsB (l : List Int) : Prop := ∀ x ∈ l, 0 ≤ x ∧ x < 256
theorem isB_wf {l : List Int} (h : ∀ x ∈ l, (Lit.int .u8 x).wf = true) : IsB l := fun x hx => by
  have := h x hx
  simp [Lit.wf, IntKind.min, IntKind.max, IntKind.bits, IntKind.signed] at this
  omega
theorem wf_u16 {x : Int} (h : (Lit.int .u16 x).wf = true) : 0 ≤ x ∧ x < 65536 := by
  simp [Lit.wf, IntKind.min, IntKind.max, IntKind.bits, IntKind.signed] at h
  omega
theorem wf_u32 {x : Int} (h : (Lit.int .u32 x).wf = true) : 0 ≤ x ∧ x < 4294967296 := by
  simp [Lit.wf, IntKind.min, IntKind.max, IntKind.bits, IntKind.signed] at h
  omega
theorem wf_u64 {x : Int} (h : (Lit.int .u64 x).wf = true) : 0 ≤ x ∧ x < 18446744073709551616 := by
  simp [Lit.wf, IntKind.min, IntKind.max, IntKind.bits, IntKind.signed] at h
  omega
theorem wf_u8 {x : Int} (h : (Lit.int .u8 x).wf = true) : 0 ≤ x ∧ x < 256 := by
  simp [Lit.wf, IntKind.min, IntKind.max, IntKind.bits, IntKind.signed] at h
  omega
theorem wf_i64 {x : Int} (h : (Lit.int .i64 x).wf = true) : -9223372036854775808 ≤ x ∧ x < 9223372036854775808 := by
  simp [Lit.wf, IntKind.min, IntKind.max, IntKind.bits, IntKind.signed] at h
  omega
theorem wr {x : Int} (h0 : -9223372036854775808 ≤ x) (h1 : x < 9223372036854775808) : wrap64 x = x := by
  unfold wrap64
  omega
theorem wu {x : Int} (h0 : 0 ≤ x) (h1 : x < 18446744073709551616) : IntKind.u64.wrap x = x := by
  simp [IntKind.wrap, IntKind.bits, IntKind.signed]
  omega
theorem wu_mod (x : Int) : IntKind.u64.wrap x = x % 18446744073709551616 := by
  simp [IntKind.wrap, IntKind.bits, IntKind.signed]
theorem isB_nil : IsB [] := fun x hx => by cases hx
theorem isB_append {a b : List Int} (ha : IsB a) (hb : IsB b) : IsB (a ++ b) := fun x hx => by
  rcases List.mem_append.1 hx with h | h
  · exact ha x h
  · exact hb x h
theorem isB_cons {x : Int} {l : List Int} (h0 : 0 ≤ x) (h1 : x < 256) (hl : IsB l) : IsB (x :: l) := fun y hy => by
  rcases List.mem_cons.1 hy with rfl | h
  · exact ⟨h0, h1⟩
  · exact hl y h
theorem isB_tail {x : Int} {l : List Int} (h : IsB (x :: l)) : IsB l := fun y hy => h y (List.mem_cons_of_mem _ hy)
theorem isB_head {x : Int} {l : List Int} (h : IsB (x :: l)) : 0 ≤ x ∧ x < 256 := h x List.mem_cons_self
theorem isB_left {a b : List Int} (h : IsB (a ++ b)) : IsB a := fun x hx => h x (List.mem_append_left _ hx)
theorem isB_right {a b : List Int} (h : IsB (a ++ b)) : IsB b := fun x hx => h x (List.mem_append_right _ hx)
theorem rd_at (l : List Int) (i : Nat) (h : i < l.length) : rd l (i : Int) = l[i] := by
  unfold rd
  rw [Int.toNat_natCast, List.getD_eq_getElem?_getD, List.getElem?_eq_getElem h, Option.getD_some]
theorem drop_at {α : Type} (l : List α) (i : Nat) (h : i < l.length) : l.drop i = l[i] :: l.drop (i + 1) := List.drop_eq_getElem_cons h
/-- The number n in m bytes, the highest first. -/
def put : Nat → Int → List Int
  | 0, _ => []
  | m + 1, n => put m (n / 256) ++ [n % 256]
theorem put_length (m : Nat) : ∀ n, (put m n).length = m := by
  induction m with
  | zero => intro n; rfl
  | succ m ih => intro n; rw [put, List.length_append, ih]; rfl
theorem put_isB (m : Nat) : ∀ n, IsB (put m n) := by
  induction m with
  | zero => intro n; exact isB_nil
  | succ m ih => intro n; exact isB_append (ih _) (isB_cons (by omega) (by omega) isB_nil)
theorem put_cons (m : Nat) : ∀ n : Int, 0 ≤ n → put (m + 1) n = (n / 256 ^ m % 256) :: put m n := by
  induction m with
  | zero => intro n _; simp [put]
  | succ m ih =>
    intro n hn
    rw [put, ih (n / 256) (by omega), List.cons_append]
    rw [show put (m + 1) n = put m (n / 256) ++ [n % 256] from rfl]
    congr 1
    rw [Int.ediv_ediv_of_nonneg (by omega), Int.pow_succ, Int.mul_comm]
/-- The number of bytes, the highest first, as 64 bits hold it. -/
def get (l : List Int) : Int := l.foldl (fun n c => (n * 256 + c) % 18446744073709551616) 0
def getz (l : List Int) : Int := l.foldl (fun n c => n * 256 + c) 0
theorem getz_append (l : List Int) (c : Int) : getz (l ++ [c]) = getz l * 256 + c := by simp [getz, List.foldl_append]
theorem get_append (l : List Int) (c : Int) : get (l ++ [c]) = (get l * 256 + c) % 18446744073709551616 := by simp [get, List.foldl_append]
theorem get_range (l : List Int) : 0 ≤ get l ∧ get l < 18446744073709551616 := by
  rcases List.eq_nil_or_concat l with rfl | ⟨a, c, rfl⟩
  · simp [get]
  · rw [List.concat_eq_append, get_append]
    omega
theorem getz_put (m : Nat) : ∀ n : Int, 0 ≤ n → n < 256 ^ m → getz (put m n) = n := by
  induction m with
  | zero => intro n h0 h1; simp at h1; simp [put, getz]; omega
  | succ m ih =>
    intro n h0 h1
    rw [put, getz_append, ih (n / 256) (by omega) (by rw [Int.pow_succ] at h1; exact Int.ediv_lt_of_lt_mul (by decide) h1)]
    omega
theorem rev_ind {α : Type} {P : List α → Prop} (h0 : P []) (h1 : ∀ l c, P l → P (l ++ [c])) (l : List α) : P l := by
  have h : ∀ m : List α, P m.reverse := by
    intro m
    induction m with
    | nil => exact h0
    | cons c m ih => rw [List.reverse_cons]; exact h1 _ _ ih
  have := h l.reverse
  rwa [List.reverse_reverse] at this
theorem getz_nonneg (l : List Int) : IsB l → 0 ≤ getz l := by
  refine rev_ind (P := fun l => IsB l → 0 ≤ getz l) (fun _ => by simp [getz]) (fun l c ih h => ?_) l
  rw [getz_append]
  have := ih (isB_left h)
  have := isB_head (isB_right h)
  omega
theorem get_getz (l : List Int) : get l = getz l % 18446744073709551616 := by
  refine rev_ind (P := fun l => get l = getz l % 18446744073709551616) (by simp [get, getz]) (fun l c ih => ?_) l
  rw [get_append, getz_append, ih]
  omega
theorem get_put (m : Nat) (n : Int) (h0 : 0 ≤ n) (h1 : n < 256 ^ m) (h2 : n < 18446744073709551616) : get (put m n) = n := by
  rw [get_getz, getz_put m n h0 h1]
  omega
theorem ev_pos {α : Type} {c : Prop} [Decidable c] {f g : Nat → Option α} {r : α} (h : c) (k : Ev f r) : Ev (fun n => if c then f n else g n) r := by
  obtain ⟨K, k⟩ := k
  exact ⟨K, fun n hn => by simp only [if_pos h]; exact k n hn⟩
theorem ev_neg {α : Type} {c : Prop} [Decidable c] {f g : Nat → Option α} {r : α} (h : ¬ c) (k : Ev g r) : Ev (fun n => if c then f n else g n) r := by
  obtain ⟨K, k⟩ := k
  exact ⟨K, fun n hn => by simp only [if_neg h]; exact k n hn⟩
theorem ev_bind {α β : Type} {g : Nat → Option α} {f : Nat → α → Option β} {a : α} {r : β} (h : Ev g a) (k : Ev (fun n => f n a) r) : Ev (fun n => (g n).bind (f n)) r := Ev.bind h k
theorem ev_some {α β : Type} {x : Option α} {f : Nat → α → Option β} {a : α} {r : β} (h : x = some a) (k : Ev (fun n => f n a) r) : Ev (fun n => x.bind (f n)) r := by
  subst h
  exact k
theorem ev_to {α : Type} {g : Nat → Option α} {r r' : α} (h : Ev g r) (e : r = r') : Ev g r' := by
  subst e
  exact h
theorem ev_at {α : Type} {g : Nat → Option α} {r : α} (K : Nat) (h : ∀ k, K ≤ k → g k = some r) : Ev g r := ⟨K, h⟩
/-- One round of a loop: the rounds are counted down first. -/
theorem ev_succ {α : Type} {g : Nat → Option α} {r : α} (k : Ev (fun n => g (n + 1)) r) : Ev g r := Ev.step (fun _ => rfl) k
theorem take_split' {α : Type} (l : List α) (n : Nat) (h : n < l.length) : l.take (n + 1) = l.take n ++ [l[n]] := List.take_succ_eq_append_getElem h
/-! #### strings and bytes -/
theorem str_bytes (s : ByteArray) : strOfNums (bytesOf s) = s := by
  have h : (strOfNums (bytesOf s)).data.toList = s.data.toList := by
    rw [strOfNums_data, bytesOf, List.map_map]
    refine (List.map_congr_left fun b _ => ?_).trans (List.map_id _)
    simp
  rcases s with ⟨a⟩
  have h2 := congrArg List.toArray h
  simp only [Array.toArray_toList] at h2
  exact congrArg ByteArray.mk h2
theorem bytesOf_inj {a b : ByteArray} (h : bytesOf a = bytesOf b) : a = b := by rw [← str_bytes a, h, str_bytes b]
theorem toList_map (s : ByteArray) : s.toList.map (fun b => (b.toNat : Int)) = bytesOf s := by rw [ByteArray.toList_eq]; rfl
theorem toList_inj {a b : ByteArray} (h : a.toList = b.toList) : a = b := bytesOf_inj (by rw [← toList_map, ← toList_map, h])
theorem nums_str {l : List Int} (h : IsB l) : bytesOf (strOfNums l) = l := by
  unfold bytesOf
  rw [strOfNums_data, List.map_map]
  refine (List.map_congr_left fun x hx => ?_).trans (List.map_id _)
  have := h x hx
  simp
  omega
theorem str_toList (l : List Int) (s : ByteArray) (h : l = bytesOf s) : (strOfNums l).toList = s.toList := by rw [h, str_bytes]
/-- Byte by byte less. -/
def less : List Int → List Int → Bool
  | _, [] => false
  | [], _ :: _ => true
  | a :: x, b :: y => decide (a < b) || (a == b && less x y)
theorem less_self (x : List Int) : less x x = false := by
  induction x with
  | nil => rfl
  | cons a x ih => simp [less, ih]
theorem less_pre (p x y : List Int) : less (p ++ x) (p ++ y) = less x y := by
  induction p with
  | nil => rfl
  | cons a p ih => simp [less, ih]
theorem bytesLess_less (x y : List UInt8) : Op.bytesLess x y = less (x.map fun b => (b.toNat : Int)) (y.map fun b => (b.toNat : Int)) := by
  induction x generalizing y with
  | nil => cases y <;> simp [Op.bytesLess, less]
  | cons a x ih =>
    cases y with
    | nil => simp [Op.bytesLess, less]
    | cons b y =>
      simp only [Op.bytesLess, less, List.map_cons, ih]
      congr 1
      · rw [Bool.eq_iff_iff]
        simp [UInt8.lt_iff_toNat_lt]
      · congr 1
        rw [Bool.eq_iff_iff]
        simp [← UInt8.toNat_inj]
        omega
theorem strLess (a b : ByteArray) : Op.bytesLess a.toList b.toList = less (bytesOf a) (bytesOf b) := by rw [bytesLess_less, toList_map, toList_map]
theorem less_put (m : Nat) : ∀ x y : Int, 0 ≤ x → 0 ≤ y → x < 256 ^ m → y < 256 ^ m → less (put m x) (put m y) = decide (x < y) := by
  have snoc : ∀ (a b : List Int) (c d : Int), a.length = b.length → less (a ++ [c]) (b ++ [d]) = (less a b || (a == b && decide (c < d))) := by
    intro a
    induction a with
    | nil => intro b c d h; cases b with | nil => simp [less] | cons => cases h
    | cons u a ih =>
      intro b c d h
      cases b with
      | nil => cases h
      | cons v b =>
        simp only [List.cons_append, less]
        rw [ih b c d (by simpa using h)]
        by_cases e : u = v
        · subst e; simp
        · have hq : (u == v) = false := beq_eq_false_iff_ne.2 e
          simp [hq]
  have inj : ∀ (m : Nat) (x y : Int), 0 ≤ x → 0 ≤ y → x < 256 ^ m → y < 256 ^ m → put m x = put m y → x = y := by
    intro m x y h0 h1 h2 h3 h
    rw [← getz_put m x h0 h2, h, getz_put m y h1 h3]
  induction m with
  | zero => intro x y h0 h1 h2 h3; simp at h2 h3; simp [put, less]; omega
  | succ m ih =>
    intro x y h0 h1 h2 h3
    rw [Int.pow_succ] at h2 h3
    have a1 := Int.ediv_lt_of_lt_mul (by decide) h2
    have a2 := Int.ediv_lt_of_lt_mul (by decide) h3
    rw [put, put, snoc _ _ _ _ (by rw [put_length, put_length]), ih _ _ (by omega) (by omega) a1 a2]
    rw [Bool.eq_iff_iff]
    simp only [Bool.or_eq_true, decide_eq_true_eq, Bool.and_eq_true, beq_iff_eq]
    constructor
    · rintro (h | ⟨h, h'⟩)
      · omega
      · have := inj m _ _ (by omega) (by omega) a1 a2 h
        omega
    · intro h
      by_cases e : x / 256 = y / 256
      · right
        rw [e]
        exact ⟨rfl, by omega⟩
      · left
        omega
theorem less_zero (a b p q : List Int) (ha : ∀ x ∈ a, 0 < x) (hb : ∀ x ∈ b, 0 < x) (h : a ≠ b) : less (a ++ 0 :: p) (b ++ 0 :: q) = less a b := by
  induction a generalizing b with
  | nil =>
    cases b with
    | nil => exact absurd rfl h
    | cons v b =>
      have := hb v List.mem_cons_self
      simp [less, this]
  | cons u a ih =>
    cases b with
    | nil =>
      have := ha u List.mem_cons_self
      simp [less]
      omega
    | cons v b =>
      simp only [List.cons_append, less]
      by_cases e : u = v
      · subst e
        rw [ih b (fun x hx => ha x (List.mem_cons_of_mem _ hx)) (fun x hx => hb x (List.mem_cons_of_mem _ hx)) (fun e => h (by rw [e]))]
      · rw [show (u == v) = false from beq_eq_false_iff_ne.2 e, Bool.false_and, Bool.false_and]
theorem bytesOf_data_inj {a b : ByteArray} (h : a.data.toList = b.data.toList) : a = b := bytesOf_inj (by unfold bytesOf; rw [h])
/-! #### deedboxref01_Same -/
theorem Same_l0 (a b : List Int) (hl : a.length = b.length) (hm : a.length ≤ 9223372036854775807) : ∀ (d k i : Nat), i + d = a.length → d < k → deedboxref01_Same.l0 k a b (i : Int) = some (decide (a.drop i = b.drop i)) := by
  intro d
  induction d with
  | zero =>
    intro k i hi hk
    obtain ⟨k, rfl⟩ : ∃ m, k = m + 1 := ⟨k - 1, by omega⟩
    simp only [deedboxref01_Same.l0]
    rw [if_neg (by omega), List.drop_of_length_le (by omega), List.drop_of_length_le (by omega)]
    simp
  | succ d ih =>
    intro k i hi hk
    obtain ⟨k, rfl⟩ : ∃ m, k = m + 1 := ⟨k - 1, by omega⟩
    simp only [deedboxref01_Same.l0]
    rw [if_pos (by omega), if_pos (by omega), if_pos (by omega), rd_at a i (by omega), rd_at b i (by omega), wr (by omega) (by omega), drop_at a i (by omega), drop_at b i (by omega)]
    have h := ih k (i + 1) (by omega) (by omega)
    rw [Int.natCast_add] at h
    by_cases e : a[i] = b[i]
    · rw [if_pos e, e]
      refine h.trans (congrArg some (decide_eq_decide.2 ?_))
      rw [List.cons.injEq]
      exact ⟨fun h => ⟨rfl, h⟩, fun h => h.2⟩
    · rw [if_neg e, decide_eq_false]
      rw [List.cons.injEq]
      exact fun h => e h.1
theorem Same_ev (a b : List Int) (hm : a.length ≤ 9223372036854775807) : Ev (fun k => deedboxref01_Same.f k a b) (decide (a = b)) := by
  unfold deedboxref01_Same.f
  by_cases hl : a.length = b.length
  · refine ev_pos (by omega) ⟨a.length + 1, fun k hk => ?_⟩
    have := Same_l0 a b hl hm a.length k 0 (by omega) (by omega)
    simpa using this
  · refine ev_neg (by omega) ⟨0, fun k _ => ?_⟩
    rw [decide_eq_false]
    rintro rfl
    exact hl rfl
theorem Same_self (a b : List Int) (hm : a.length ≤ 9223372036854775807) (h : a = b) : Ev (fun k => deedboxref01_Same.f k a b) true := ev_to (Same_ev a b hm) (by rw [decide_eq_true h])
/-! #### octet_Put -/
theorem shr8 (n : Int) (i : Nat) (hi : i ≤ 7) : shr .u64 n (8 * (i : Int)) = n / 256 ^ i := by
  unfold shr
  have e : (8 * (i : Int)).toNat = 8 * i := by omega
  rw [e, show IntKind.u64.bits = 64 from rfl, Nat.min_eq_left (by omega), Int.pow_mul]
  rfl
theorem Put_l0 (n : Int) (h0 : 0 ≤ n) (h1 : n < 18446744073709551616) : ∀ (m k : Nat) (b : List Int), m < k → b.length + m < 140737488355328 → octet_Put.l0 k n b ((m : Int) - 1) = some (b ++ put m n) := by
  intro m
  induction m with
  | zero =>
    intro k b hk hb
    obtain ⟨k, rfl⟩ : ∃ m, k = m + 1 := ⟨k - 1, by omega⟩
    simp only [octet_Put.l0]
    rw [if_neg (by omega), put, List.append_nil]
  | succ m ih =>
    intro k b hk hb
    obtain ⟨k, rfl⟩ : ∃ m, k = m + 1 := ⟨k - 1, by omega⟩
    simp only [octet_Put.l0]
    have e : (((m + 1 : Nat) : Int) - 1) = (m : Int) := by omega
    rw [e, put_cons m n h0, if_pos (by omega), wr (x := (m : Int) - 1) (by omega) (by omega)]
    by_cases h7 : (m : Int) > 7
    · rw [if_pos h7, if_pos (by omega), ih k _ (by omega) (by rw [List.length_append, List.length_singleton]; omega), List.append_assoc]
      have hz : n / 256 ^ m = 0 := by
        refine Int.ediv_eq_zero_of_lt h0 (Int.lt_of_lt_of_le h1 ?_)
        have h8 : (256 : Nat) ^ 8 ≤ 256 ^ m := Nat.pow_le_pow_right (by decide) (by omega)
        have h9 : ((256 ^ 8 : Nat) : Int) ≤ ((256 ^ m : Nat) : Int) := Int.ofNat_le.2 h8
        rw [Int.natCast_pow] at h9
        exact Int.le_trans (by decide) h9
      rw [hz]
      rfl
    · rw [if_neg h7, wr (x := 8 * (m : Int)) (by omega) (by omega), if_pos (by omega), if_pos (by omega), shr8 n m (by omega), ih k _ (by omega) (by rw [List.length_append, List.length_singleton]; omega), List.append_assoc]
      rfl
theorem Put_ev (n : Int) (m : Nat) (h0 : 0 ≤ n) (h1 : n < 18446744073709551616) (hm : m < 140737488355328) : Ev (fun k => octet_Put.f k n (m : Int)) (put m n) := by
  refine ⟨m + 1, fun k hk => ?_⟩
  unfold octet_Put.f
  show octet_Put.l0 k n [] (wrap64 ((m : Int) - 1)) = _
  rw [wr (by omega) (by omega), Put_l0 n h0 h1 m k [] (by omega) (by rw [List.length_nil]; omega), List.nil_append]
theorem Put_neg (n : Int) (s : Int) (hs : s ≤ 0) (h2 : -9223372036854775807 ≤ s) : Ev (fun k => octet_Put.f k n s) [] := by
  refine ⟨1, fun k hk => ?_⟩
  obtain ⟨k, rfl⟩ : ∃ m, k = m + 1 := ⟨k - 1, by omega⟩
  show octet_Put.l0 (k + 1) n [] (wrap64 (s - 1)) = _
  rw [wr (by omega) (by omega)]
  simp only [octet_Put.l0]
  rw [if_neg (by omega)]
/-! #### deedboxref01_Put -/
theorem rPut_ev (m : Nat) : ∀ (n : Int), 0 ≤ n → n < 18446744073709551616 → m < 140737488355328 → Ev (fun k => deedboxref01_Put.f k n (m : Int)) (put m n) := by
  induction m with
  | zero =>
    intro n h0 h1 hm
    refine Ev.step (f := fun _ => some []) (fun k => ?_) (Ev.now _)
    simp only [deedboxref01_Put.f]
    rw [if_pos (by omega)]
  | succ m ih =>
    intro n h0 h1 hm
    have h := ih (n / 256) (by omega) (by omega) (by omega)
    refine Ev.step (f := fun k => (deedboxref01_Put.f k (n / 256) (m : Int)).bind fun t => if t.length < 140737488355328 then some (t ++ [n % 256]) else none) (fun k => ?_) (ev_bind h ⟨0, fun k _ => ?_⟩)
    · simp only [deedboxref01_Put.f]
      rw [if_neg (by omega), Int.tdiv_eq_ediv_of_nonneg h0, Int.tmod_eq_emod_of_nonneg h0, wu (by omega) (by omega), wr (by omega) (by omega), show (((m + 1 : Nat) : Int) - 1) = (m : Int) by omega, show n % 256 % 256 = n % 256 by omega]
    · rw [put_length, if_pos (by omega)]
      rfl
theorem works_ok : Ev (fun k => deedboxlaw11_works.f k) true := Ev.of (fun k => deedboxlaw11_works.mono k) (k := 80) (by decide +kernel)
/-! #### tape_Noise -/
def nx (x : Int) : Int := IntKind.u64.wrap ((IntKind.u64.wrap (x * 6364136223846793005)) + 1442695040888963407)
theorem nx_range (x : Int) : 0 ≤ nx x ∧ nx x < 18446744073709551616 := by
  unfold nx
  rw [wu_mod]
  omega
def tailN : Nat → Int → List Int
  | 0, _ => []
  | m + 1, x => (nx x / 72057594037927936) % 256 :: tailN m (nx x)
theorem tailN_length (m : Nat) : ∀ x, (tailN m x).length = m := by
  induction m with
  | zero => intro x; rfl
  | succ m ih => intro x; rw [tailN, List.length_cons, ih]
theorem tailN_take (m : Nat) : ∀ (a : Nat) (x : Int), (tailN m x).take a = tailN (min a m) x := by
  induction m with
  | zero => intro a x; simp [tailN]
  | succ m ih =>
    intro a x
    cases a with
    | zero => simp [tailN]
    | succ a => rw [tailN, List.take_succ_cons, ih, show min (a + 1) (m + 1) = min a m + 1 by omega, tailN]
def noise (n : Int) (s : Nat) : List Int := (put 8 n).take s ++ tailN (s - 8) n
theorem noise_length (n : Int) (s : Nat) : (noise n s).length = s := by
  rw [noise, List.length_append, List.length_take, put_length, tailN_length]
  omega
theorem noise_take (n : Int) (a b : Nat) : (noise n (a + b)).take a = noise n a := by
  rw [noise, noise, List.take_append, List.take_take, List.length_take, put_length, tailN_take]
  congr 2
  · omega
  · omega
theorem noise_big (n : Int) (s : Nat) (h : 8 ≤ s) : noise n s = put 8 n ++ tailN (s - 8) n := by rw [noise, List.take_of_length_le (by rw [put_length]; omega)]
theorem mxmn (s l : Int) (h0 : 0 ≤ l) : mx (mn s l) 0 = if s < 0 then 0 else if l < s then l else s := by
  unfold mx mn
  (repeat' split) <;> omega
theorem Noise_l0 (s : Int) (hs : s ≤ 1000000000) : ∀ (d : Nat) (b : List Int) (x : Int), 0 ≤ s → (b.length : Int) + d = s → Ev (fun k => tape_Noise.l0 k s b x) (b ++ tailN d x) := by
  intro d
  induction d with
  | zero =>
    intro b x h0 hd
    refine ev_succ ?_
    simp only [tape_Noise.l0]
    rw [mxmn s _ (by omega)]
    refine ev_neg (by omega) (ev_pos (by (repeat' split) <;> omega) (ev_pos (by (repeat' split) <;> omega) (ev_to (Ev.now _) ?_)))
    rw [if_neg (by omega), if_neg (by omega), List.take_of_length_le (by omega), tailN, List.append_nil]
  | succ d ih =>
    intro b x h0 hd
    have h := ih (b ++ [(nx x / 72057594037927936) % 256]) (nx x) h0 (by rw [List.length_append, List.length_singleton]; omega)
    refine ev_succ ?_
    simp only [tape_Noise.l0]
    refine ev_pos (by omega) (ev_pos (by omega) (ev_to h ?_))
    rw [tailN, List.append_assoc]
    rfl
theorem Put8_ev (n : Int) (h0 : 0 ≤ n) (h1 : n < 18446744073709551616) : Ev (fun k => octet_Put.f k n 8) (put 8 n) := Put_ev n 8 h0 h1 (by omega)
theorem Noise_ev (n s : Int) (h0 : 0 ≤ n) (h1 : n < 18446744073709551616) (hs : s ≤ 1000000000) : Ev (fun k => tape_Noise.f k n s) (noise n s.toNat) := by
  unfold tape_Noise.f
  refine ev_bind (Put8_ev n h0 h1) ?_
  have hl := put_length 8 n
  by_cases h : 8 ≤ s
  · refine ev_to (Noise_l0 s hs (s - 8).toNat (put 8 n) n (by omega) (by omega)) ?_
    rw [noise_big n s.toNat (by omega), show s.toNat - 8 = (s - 8).toNat by omega]
  · refine ev_succ ?_
    simp only [tape_Noise.l0]
    rw [mxmn s _ (by omega)]
    refine ev_neg (by omega) (ev_pos (by (repeat' split) <;> omega) (ev_pos (by (repeat' split) <;> omega) (ev_to (Ev.now _) ?_)))
    rw [noise, show s.toNat - 8 = 0 by omega, tailN, List.append_nil]
    congr 1
    (repeat' split) <;> omega
/-! #### deedboxref11_Noise -/
theorem rNoise_l0 (s : Int) (hs : s ≤ 1000000000) (h0 : 0 ≤ s) : ∀ (d : Nat) (b : List Int) (x i : Int), i + d = s → (b.length : Int) = i → Ev (fun k => deedboxref11_Noise.l0 k s b x i) (b ++ tailN d x) := by
  intro d
  induction d with
  | zero =>
    intro b x i hd hb
    refine ev_succ ?_
    simp only [deedboxref11_Noise.l0]
    refine ev_neg (by omega) (ev_neg (by omega) (ev_pos (by omega) (ev_pos (by omega) (ev_to (Ev.now _) ?_))))
    rw [List.take_of_length_le (by omega), tailN, List.append_nil]
  | succ d ih =>
    intro b x i hd hb
    have hr := nx_range x
    have h := ih (b ++ [(nx x / 72057594037927936) % 256]) (nx x) (i + 1) (by omega) (by rw [List.length_append, List.length_singleton]; omega)
    refine ev_succ ?_
    simp only [deedboxref11_Noise.l0]
    have e : (IntKind.u64.wrap (Int.tdiv (nx x) 72057594037927936)) % 256 = (nx x / 72057594037927936) % 256 := by
      rw [Int.tdiv_eq_ediv_of_nonneg hr.1, wu (by omega) (by omega)]
    unfold nx at e
    rw [e, wr (by omega) (by omega)]
    refine ev_pos (by omega) (ev_pos (by omega) (ev_to h ?_))
    rw [tailN, List.append_assoc]
    rfl
theorem rPut8_ev (n : Int) (h0 : 0 ≤ n) (h1 : n < 18446744073709551616) : Ev (fun k => deedboxref01_Put.f k n 8) (put 8 n) := rPut_ev 8 n h0 h1 (by omega)
theorem rNoise_ev (n s : Int) (h0 : 0 ≤ n) (h1 : n < 18446744073709551616) (hs : s ≤ 1000000000) : Ev (fun k => deedboxref11_Noise.f k n s) (noise n s.toNat) := by
  unfold deedboxref11_Noise.f
  refine ev_bind (rPut8_ev n h0 h1) ?_
  have hl := put_length 8 n
  by_cases h : 8 ≤ s
  · refine ev_to (rNoise_l0 s hs (by omega) (s - 8).toNat (put 8 n) n 8 (by omega) (by omega)) ?_
    rw [noise_big n s.toNat (by omega), show s.toNat - 8 = (s - 8).toNat by omega]
  · refine ev_succ ?_
    simp only [deedboxref11_Noise.l0]
    refine ev_neg (by omega) ?_
    rw [noise, show s.toNat - 8 = 0 by omega, tailN, List.append_nil]
    by_cases h2 : s < 0
    · refine ev_pos h2 (ev_to (Ev.now _) ?_)
      rw [show s.toNat = 0 by omega]
      rfl
    · exact ev_neg h2 (ev_pos (by omega) (ev_pos (by omega) (Ev.now _)))
/-- TapeNoise: the bytes of any number, as many as are wished; fewer are the first ones of more. -/
theorem TapeNoise : deedboxlaw11_TapeNoise.Pure := by
  intro a0 a1 a2 w0 w1 w2
  have h0 := wf_u64 w0
  have h1 := wf_i64 w1
  have h2 := wf_u8 w2
  refine Ev.rounds (g := fun k => deedboxlaw11_TapeNoise.f k a0 a1 a2) ?_
  unfold deedboxlaw11_TapeNoise.f
  by_cases c1 : a1 > 2000
  · exact ev_pos c1 (ev_bind works_ok (Ev.now _))
  · refine ev_neg c1 ?_
    have hl := noise_length a0 a1.toNat
    refine ev_bind (Noise_ev a0 a1 h0.1 h0.2 (by omega)) (ev_bind (rNoise_ev a0 a1 h0.1 h0.2 (by omega)) (ev_bind (Same_self _ _ (by omega) rfl) (ev_pos rfl ?_)))
    by_cases c2 : a1 < 0
    · exact ev_pos c2 (ev_bind works_ok (Ev.now _))
    · refine ev_neg c2 ?_
      rw [wr (x := a2) (by omega) (by omega), wr (x := a1 + a2) (by omega) (by omega)]
      have hl2 := noise_length a0 (a1 + a2).toNat
      refine ev_bind (Noise_ev a0 (a1 + a2) h0.1 h0.2 (by omega)) (ev_pos (by omega) (ev_pos (by omega) (ev_pos (by omega) (ev_bind (Same_self _ _ (by rw [List.length_take]; omega) ?_) (ev_pos rfl (ev_bind works_ok (Ev.now _)))))))
      rw [show (a1 + a2).toNat = a1.toNat + a2.toNat by omega, noise_take]
end Go.Proofs.Ytagoofdopgopoaa.Pure
