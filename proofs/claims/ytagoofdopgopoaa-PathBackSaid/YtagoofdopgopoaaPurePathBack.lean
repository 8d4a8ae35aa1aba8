/- PathBack: for every bucket, name, number and part, the keys made of them are read back as they were, and fit. -/
import Derived.Test.YtagoofdopgopoaaPPathBackx3
import Derived.Laws.BitsLemmas
import Derived.Laws.Strings
namespace Go.Proofs.Ytagoofdopgopoaa.Pure
open Go.RowKit Go.Proofs.Ytagoofdopgopoaa.PPathBack Go.Proofs.YtagoofdopgopoaaW.PrintWords Go.Proofs.YtagoofdopgopoaaW.PrintLast Go.Proofs.YtagoofdopgopoaaW.PrintMore
set_option linter.unusedVariables false
set_option linter.unusedSimpArgs false
/-! #### bytes and numbers -/
def IsB (l : List Int) : Prop := ∀ x ∈ l, 0 ≤ x ∧ x < 256
theorem isB_wf {l : List Int} (h : ∀ x ∈ l, (Lit.int .u8 x).wf = true) : IsB l := fun x hx => by
  have := h x hx
  simp [Lit.wf, IntKind.min, IntKind.max, IntKind.bits, IntKind.signed] at this
  omega
theorem wf_u16 {x : Int} (h : (Lit.int .u16 x).wf = true) : 0 ≤ x ∧ x < 65536 := by
  simp [Lit.wf, IntKind.min, IntKind.max, IntKind.bits, IntKind.signed] at h
  omega
theorem wf_u32 {x : Int} (h : (Lit.int .u32 x).wf = true) : 0 ≤ x ∧ x < 4294967296 := by
  simp [Lit.wf, IntKind.min, IntKind.max, IntKind.bits, IntKind.signed] at h
  omega
theorem wf_u64 {x : Int} (h : (Lit.int .u64 x).wf = true) : 0 ≤ x ∧ x < 18446744073709551616 := by
  simp [Lit.wf, IntKind.min, IntKind.max, IntKind.bits, IntKind.signed] at h
  omega
theorem wf_u8 {x : Int} (h : (Lit.int .u8 x).wf = true) : 0 ≤ x ∧ x < 256 := by
  simp [Lit.wf, IntKind.min, IntKind.max, IntKind.bits, IntKind.signed] at h
  omega
theorem wf_i64 {x : Int} (h : (Lit.int .i64 x).wf = true) : -9223372036854775808 ≤ x ∧ x < 9223372036854775808 := by
  simp [Lit.wf, IntKind.min, IntKind.max, IntKind.bits, IntKind.signed] at h
  omega
theorem wr {x : Int} (h0 : -9223372036854775808 ≤ x) (h1 : x < 9223372036854775808) : wrap64 x = x := by
  unfold wrap64
  omega
theorem wu {x : Int} (h0 : 0 ≤ x) (h1 : x < 18446744073709551616) : IntKind.u64.wrap x = x := by
  simp [IntKind.wrap, IntKind.bits, IntKind.signed]
  omega
theorem wu_mod (x : Int) : IntKind.u64.wrap x = x % 18446744073709551616 := by
  simp [IntKind.wrap, IntKind.bits, IntKind.signed]
theorem isB_nil : IsB [] := fun x hx => by cases hx
theorem isB_append {a b : List Int} (ha : IsB a) (hb : IsB b) : IsB (a ++ b) := fun x hx => by
  rcases List.mem_append.1 hx with h | h
  · exact ha x h
  · exact hb x h
theorem isB_cons {x : Int} {l : List Int} (h0 : 0 ≤ x) (h1 : x < 256) (hl : IsB l) : IsB (x :: l) := fun y hy => by
  rcases List.mem_cons.1 hy with rfl | h
  · exact ⟨h0, h1⟩
  · exact hl y h
theorem isB_tail {x : Int} {l : List Int} (h : IsB (x :: l)) : IsB l := fun y hy => h y (List.mem_cons_of_mem _ hy)
theorem isB_head {x : Int} {l : List Int} (h : IsB (x :: l)) : 0 ≤ x ∧ x < 256 := h x List.mem_cons_self
theorem isB_left {a b : List Int} (h : IsB (a ++ b)) : IsB a := fun x hx => h x (List.mem_append_left _ hx)
theorem isB_right {a b : List Int} (h : IsB (a ++ b)) : IsB b := fun x hx => h x (List.mem_append_right _ hx)
theorem rd_at (l : List Int) (i : Nat) (h : i < l.length) : rd l (i : Int) = l[i] := by
  unfold rd
  rw [Int.toNat_natCast, List.getD_eq_getElem?_getD, List.getElem?_eq_getElem h, Option.getD_some]
theorem drop_at {α : Type} (l : List α) (i : Nat) (h : i < l.length) : l.drop i = l[i] :: l.drop (i + 1) := List.drop_eq_getElem_cons h
/-- The number n in m bytes, the highest first. -/
def put : Nat → Int → List Int
  | 0, _ => []
  | m + 1, n => put m (n / 256) ++ [n % 256]
theorem put_length (m : Nat) : ∀ n, (put m n).length = m := by
  induction m with
  | zero => intro n; rfl
  | succ m ih => intro n; rw [put, List.length_append, ih]; rfl
theorem put_isB (m : Nat) : ∀ n, IsB (put m n) := by
  induction m with
  | zero => intro n; exact isB_nil
  | succ m ih => intro n; exact isB_append (ih _) (isB_cons (by omega) (by omega) isB_nil)
theorem put_cons (m : Nat) : ∀ n : Int, 0 ≤ n → put (m + 1) n = (n / 256 ^ m % 256) :: put m n := by
  induction m with
  | zero => intro n _; simp [put]
  | succ m ih =>
    intro n hn
    rw [put, ih (n / 256) (by omega), List.cons_append]
    rw [show put (m + 1) n = put m (n / 256) ++ [n % 256] from rfl]
    congr 1
    rw [Int.ediv_ediv_of_nonneg (by omega), Int.pow_succ, Int.mul_comm]
/-- The number of bytes, the highest first, as 64 bits hold it. -/
def get (l : List Int) : Int := l.foldl (fun n c => (n * 256 + c) % 18446744073709551616) 0
def getz (l : List Int) : Int := l.foldl (fun n c => n * 256 + c) 0
theorem getz_append (l : List Int) (c : Int) : getz (l ++ [c]) = getz l * 256 + c := by simp [getz, List.foldl_append]
theorem get_append (l : List Int) (c : Int) : get (l ++ [c]) = (get l * 256 + c) % 18446744073709551616 := by simp [get, List.foldl_append]
theorem get_range (l : List Int) : 0 ≤ get l ∧ get l < 18446744073709551616 := by
  rcases List.eq_nil_or_concat l with rfl | ⟨a, c, rfl⟩
  · simp [get]
  · rw [List.concat_eq_append, get_append]
    omega
theorem getz_put (m : Nat) : ∀ n : Int, 0 ≤ n → n < 256 ^ m → getz (put m n) = n := by
  induction m with
  | zero => intro n h0 h1; simp at h1; simp [put, getz]; omega
  | succ m ih =>
    intro n h0 h1
    rw [put, getz_append, ih (n / 256) (by omega) (by rw [Int.pow_succ] at h1; exact Int.ediv_lt_of_lt_mul (by decide) h1)]
    omega
theorem rev_ind {α : Type} {P : List α → Prop} (h0 : P []) (h1 : ∀ l c, P l → P (l ++ [c])) (l : List α) : P l := by
  have h : ∀ m : List α, P m.reverse := by
    intro m
    induction m with
    | nil => exact h0
    | cons c m ih => rw [List.reverse_cons]; exact h1 _ _ ih
  have := h l.reverse
  rwa [List.reverse_reverse] at this
theorem getz_nonneg (l : List Int) : IsB l → 0 ≤ getz l := by
  refine rev_ind (P := fun l => IsB l → 0 ≤ getz l) (fun _ => by simp [getz]) (fun l c ih h => ?_) l
  rw [getz_append]
  have := ih (isB_left h)
  have := isB_head (isB_right h)
  omega
theorem get_getz (l : List Int) : get l = getz l % 18446744073709551616 := by
  refine rev_ind (P := fun l => get l = getz l % 18446744073709551616) (by simp [get, getz]) (fun l c ih => ?_) l
  rw [get_append, getz_append, ih]
  omega
theorem get_put (m : Nat) (n : Int) (h0 : 0 ≤ n) (h1 : n < 256 ^ m) (h2 : n < 18446744073709551616) : get (put m n) = n := by
  rw [get_getz, getz_put m n h0 h1]
  omega
theorem ev_pos {α : Type} {c : Prop} [Decidable c] {f g : Nat → Option α} {r : α} (h : c) (k : Ev f r) : Ev (fun n => if c then f n else g n) r := by
  obtain ⟨K, k⟩ := k
  exact ⟨K, fun n hn => by simp only [if_pos h]; exact k n hn⟩
theorem ev_neg {α : Type} {c : Prop} [Decidable c] {f g : Nat → Option α} {r : α} (h : ¬ c) (k : Ev g r) : Ev (fun n => if c then f n else g n) r := by
  obtain ⟨K, k⟩ := k
  exact ⟨K, fun n hn => by simp only [if_neg h]; exact k n hn⟩
theorem ev_bind {α β : Type} {g : Nat → Option α} {f : Nat → α → Option β} {a : α} {r : β} (h : Ev g a) (k : Ev (fun n => f n a) r) : Ev (fun n => (g n).bind (f n)) r := Ev.bind h k
theorem ev_some {α β : Type} {x : Option α} {f : Nat → α → Option β} {a : α} {r : β} (h : x = some a) (k : Ev (fun n => f n a) r) : Ev (fun n => x.bind (f n)) r := by
  subst h
  exact k
theorem ev_to {α : Type} {g : Nat → Option α} {r r' : α} (h : Ev g r) (e : r = r') : Ev g r' := by
  subst e
  exact h
theorem ev_at {α : Type} {g : Nat → Option α} {r : α} (K : Nat) (h : ∀ k, K ≤ k → g k = some r) : Ev g r := ⟨K, h⟩
/-- One round of a loop: the rounds are counted down first. -/
theorem ev_succ {α : Type} {g : Nat → Option α} {r : α} (k : Ev (fun n => g (n + 1)) r) : Ev g r := Ev.step (fun _ => rfl) k
/-! #### strings and bytes -/
theorem str_bytes (s : ByteArray) : strOfNums (bytesOf s) = s := by
  have h : (strOfNums (bytesOf s)).data.toList = s.data.toList := by
    rw [strOfNums_data, bytesOf, List.map_map]
    refine (List.map_congr_left fun b _ => ?_).trans (List.map_id _)
    simp
  rcases s with ⟨a⟩
  have h2 := congrArg List.toArray h
  simp only [Array.toArray_toList] at h2
  exact congrArg ByteArray.mk h2
theorem bytesOf_inj {a b : ByteArray} (h : bytesOf a = bytesOf b) : a = b := by rw [← str_bytes a, h, str_bytes b]
theorem toList_map (s : ByteArray) : s.toList.map (fun b => (b.toNat : Int)) = bytesOf s := by rw [ByteArray.toList_eq]; rfl
theorem toList_inj {a b : ByteArray} (h : a.toList = b.toList) : a = b := bytesOf_inj (by rw [← toList_map, ← toList_map, h])
theorem nums_str {l : List Int} (h : IsB l) : bytesOf (strOfNums l) = l := by
  unfold bytesOf
  rw [strOfNums_data, List.map_map]
  refine (List.map_congr_left fun x hx => ?_).trans (List.map_id _)
  have := h x hx
  simp
  omega
theorem str_toList (l : List Int) (s : ByteArray) (h : l = bytesOf s) : (strOfNums l).toList = s.toList := by rw [h, str_bytes]
/-- Byte by byte less. -/
def less : List Int → List Int → Bool
  | _, [] => false
  | [], _ :: _ => true
  | a :: x, b :: y => decide (a < b) || (a == b && less x y)
theorem less_self (x : List Int) : less x x = false := by
  induction x with
  | nil => rfl
  | cons a x ih => simp [less, ih]
theorem less_pre (p x y : List Int) : less (p ++ x) (p ++ y) = less x y := by
  induction p with
  | nil => rfl
  | cons a p ih => simp [less, ih]
theorem bytesLess_less (x y : List UInt8) : Op.bytesLess x y = less (x.map fun b => (b.toNat : Int)) (y.map fun b => (b.toNat : Int)) := by
  induction x generalizing y with
  | nil => cases y <;> simp [Op.bytesLess, less]
  | cons a x ih =>
    cases y with
    | nil => simp [Op.bytesLess, less]
    | cons b y =>
      simp only [Op.bytesLess, less, List.map_cons, ih]
      congr 1
      · rw [Bool.eq_iff_iff]
        simp [UInt8.lt_iff_toNat_lt]
      · congr 1
        rw [Bool.eq_iff_iff]
        simp [← UInt8.toNat_inj]
        omega
theorem strLess (a b : ByteArray) : Op.bytesLess a.toList b.toList = less (bytesOf a) (bytesOf b) := by rw [bytesLess_less, toList_map, toList_map]
theorem less_put (m : Nat) : ∀ x y : Int, 0 ≤ x → 0 ≤ y → x < 256 ^ m → y < 256 ^ m → less (put m x) (put m y) = decide (x < y) := by
  have snoc : ∀ (a b : List Int) (c d : Int), a.length = b.length → less (a ++ [c]) (b ++ [d]) = (less a b || (a == b && decide (c < d))) := by
    intro a
    induction a with
    | nil => intro b c d h; cases b with | nil => simp [less] | cons => cases h
    | cons u a ih =>
      intro b c d h
      cases b with
      | nil => cases h
      | cons v b =>
        simp only [List.cons_append, less]
        rw [ih b c d (by simpa using h)]
        by_cases e : u = v
        · subst e; simp
        · have hq : (u == v) = false := beq_eq_false_iff_ne.2 e
          simp [hq]
  have inj : ∀ (m : Nat) (x y : Int), 0 ≤ x → 0 ≤ y → x < 256 ^ m → y < 256 ^ m → put m x = put m y → x = y := by
    intro m x y h0 h1 h2 h3 h
    rw [← getz_put m x h0 h2, h, getz_put m y h1 h3]
  induction m with
  | zero => intro x y h0 h1 h2 h3; simp at h2 h3; simp [put, less]; omega
  | succ m ih =>
    intro x y h0 h1 h2 h3
    rw [Int.pow_succ] at h2 h3
    have a1 := Int.ediv_lt_of_lt_mul (by decide) h2
    have a2 := Int.ediv_lt_of_lt_mul (by decide) h3
    rw [put, put, snoc _ _ _ _ (by rw [put_length, put_length]), ih _ _ (by omega) (by omega) a1 a2]
    rw [Bool.eq_iff_iff]
    simp only [Bool.or_eq_true, decide_eq_true_eq, Bool.and_eq_true, beq_iff_eq]
    constructor
    · rintro (h | ⟨h, h'⟩)
      · omega
      · have := inj m _ _ (by omega) (by omega) a1 a2 h
        omega
    · intro h
      by_cases e : x / 256 = y / 256
      · right
        rw [e]
        exact ⟨rfl, by omega⟩
      · left
        omega
theorem less_zero (a b p q : List Int) (ha : ∀ x ∈ a, 0 < x) (hb : ∀ x ∈ b, 0 < x) (h : a ≠ b) : less (a ++ 0 :: p) (b ++ 0 :: q) = less a b := by
  induction a generalizing b with
  | nil =>
    cases b with
    | nil => exact absurd rfl h
    | cons v b =>
      have := hb v List.mem_cons_self
      simp [less, this]
  | cons u a ih =>
    cases b with
    | nil =>
      have := ha u List.mem_cons_self
      simp [less]
      omega
    | cons v b =>
      simp only [List.cons_append, less]
      by_cases e : u = v
      · subst e
        rw [ih b (fun x hx => ha x (List.mem_cons_of_mem _ hx)) (fun x hx => hb x (List.mem_cons_of_mem _ hx)) (fun e => h (by rw [e]))]
      · rw [show (u == v) = false from beq_eq_false_iff_ne.2 e, Bool.false_and, Bool.false_and]
/-! #### octet_Join -/
def lens (l : List (List Int)) : Nat := (l.map List.length).sum
theorem lens_append (a b : List (List Int)) : lens (a ++ b) = lens a + lens b := by simp [lens]
theorem lens_cons (x : List Int) (b : List (List Int)) : lens (x :: b) = x.length + lens b := by simp [lens]
theorem lens_flatten (a : List (List Int)) : a.flatten.length = lens a := by simp [lens, List.length_flatten]
theorem rdL_at (l : List (List Int)) (i : Nat) (h : i < l.length) : rd_L1 l (i : Int) = l[i] := by
  unfold rd_L1
  rw [Int.toNat_natCast, List.getD_eq_getElem?_getD, List.getElem?_eq_getElem h, Option.getD_some]
theorem take_at {α : Type} (l : List α) (i : Nat) (h : i < l.length) : l.take (i + 1) = l.take i ++ [l[i]] := by
  rw [List.take_succ_eq_append_getElem h]
theorem lens_take (l : List (List Int)) (i : Nat) : lens (l.take i) ≤ lens l := by
  have := lens_append (l.take i) (l.drop i)
  rw [List.take_append_drop] at this
  omega
theorem Join_l1 (l : List (List Int)) (hb : lens l < 140737488355328) (hl : l.length ≤ 9223372036854775807) : ∀ (d k i : Nat), i + d = l.length → d < k → octet_Join.l1 k (l.take i).flatten l (l.length : Int) (i : Int) = some l.flatten := by
  intro d
  induction d with
  | zero =>
    intro k i hi hk
    obtain ⟨k, rfl⟩ : ∃ m, k = m + 1 := ⟨k - 1, by omega⟩
    simp only [octet_Join.l1]
    rw [if_neg (by omega), List.take_of_length_le (by omega)]
  | succ d ih =>
    intro k i hi hk
    obtain ⟨k, rfl⟩ : ∃ m, k = m + 1 := ⟨k - 1, by omega⟩
    simp only [octet_Join.l1]
    have h1 := lens_take l (i + 1)
    rw [take_at l i (by omega), lens_append] at h1
    have h2 : lens [l[i]] = l[i].length := by simp [lens]
    rw [if_pos (by omega), if_pos (by omega), if_pos (by omega), rdL_at l i (by omega), if_pos (by rw [lens_flatten]; omega), wr (by omega) (by omega)]
    have h := ih k (i + 1) (by omega) (by omega)
    rw [take_at l i (by omega), List.flatten_append] at h
    simpa using h
theorem Join_l0 (l : List (List Int)) (hb : lens l < 140737488355328) (hl : l.length ≤ 9223372036854775807) : ∀ (d k i : Nat), i + d = l.length → d + l.length + 1 < k → octet_Join.l0 k l (lens (l.take i) : Int) l (l.length : Int) (i : Int) = some l.flatten := by
  intro d
  induction d with
  | zero =>
    intro k i hi hk
    obtain ⟨k, rfl⟩ : ∃ m, k = m + 1 := ⟨k - 1, by omega⟩
    simp only [octet_Join.l0]
    have h := Join_l1 l hb hl l.length k 0 (by omega) (by omega)
    have h1 := lens_take l i
    rw [if_neg (by omega), if_pos (by omega), if_pos (by omega)]
    simpa using h
  | succ d ih =>
    intro k i hi hk
    obtain ⟨k, rfl⟩ : ∃ m, k = m + 1 := ⟨k - 1, by omega⟩
    simp only [octet_Join.l0]
    have h1 := lens_take l (i + 1)
    have h := ih k (i + 1) (by omega) (by omega)
    rw [take_at l i (by omega), lens_append] at h1 h
    have h2 : lens [l[i]] = l[i].length := by simp [lens]
    rw [if_pos (by omega), if_pos (by omega), if_pos (by omega), rdL_at l i (by omega), wr (by omega) (by omega), wr (by omega) (by omega)]
    rw [h2] at h
    rw [Int.natCast_add, Int.natCast_add] at h
    exact h
theorem Join_ev (l : List (List Int)) (hb : lens l < 140737488355328) (hl : l.length ≤ 9223372036854775807) : Ev (fun k => octet_Join.f k l) l.flatten := by
  refine ⟨2 * l.length + 2, fun k hk => ?_⟩
  have := Join_l0 l hb hl l.length k 0 (by omega) (by omega)
  unfold octet_Join.f
  simpa [lens] using this
/-! #### octet_Put -/
theorem shr8 (n : Int) (i : Nat) (hi : i ≤ 7) : shr .u64 n (8 * (i : Int)) = n / 256 ^ i := by
  unfold shr
  have e : (8 * (i : Int)).toNat = 8 * i := by omega
  rw [e, show IntKind.u64.bits = 64 from rfl, Nat.min_eq_left (by omega), Int.pow_mul]
  rfl
theorem Put_l0 (n : Int) (h0 : 0 ≤ n) (h1 : n < 18446744073709551616) : ∀ (m k : Nat) (b : List Int), m < k → b.length + m < 140737488355328 → octet_Put.l0 k n b ((m : Int) - 1) = some (b ++ put m n) := by
  intro m
  induction m with
  | zero =>
    intro k b hk hb
    obtain ⟨k, rfl⟩ : ∃ m, k = m + 1 := ⟨k - 1, by omega⟩
    simp only [octet_Put.l0]
    rw [if_neg (by omega), put, List.append_nil]
  | succ m ih =>
    intro k b hk hb
    obtain ⟨k, rfl⟩ : ∃ m, k = m + 1 := ⟨k - 1, by omega⟩
    simp only [octet_Put.l0]
    have e : (((m + 1 : Nat) : Int) - 1) = (m : Int) := by omega
    rw [e, put_cons m n h0, if_pos (by omega), wr (x := (m : Int) - 1) (by omega) (by omega)]
    by_cases h7 : (m : Int) > 7
    · rw [if_pos h7, if_pos (by omega), ih k _ (by omega) (by rw [List.length_append, List.length_singleton]; omega), List.append_assoc]
      have hz : n / 256 ^ m = 0 := by
        refine Int.ediv_eq_zero_of_lt h0 (Int.lt_of_lt_of_le h1 ?_)
        have h8 : (256 : Nat) ^ 8 ≤ 256 ^ m := Nat.pow_le_pow_right (by decide) (by omega)
        have h9 : ((256 ^ 8 : Nat) : Int) ≤ ((256 ^ m : Nat) : Int) := Int.ofNat_le.2 h8
        rw [Int.natCast_pow] at h9
        exact Int.le_trans (by decide) h9
      rw [hz]
      rfl
    · rw [if_neg h7, wr (x := 8 * (m : Int)) (by omega) (by omega), if_pos (by omega), if_pos (by omega), shr8 n m (by omega), ih k _ (by omega) (by rw [List.length_append, List.length_singleton]; omega), List.append_assoc]
      rfl
theorem Put_ev (n : Int) (m : Nat) (h0 : 0 ≤ n) (h1 : n < 18446744073709551616) (hm : m < 140737488355328) : Ev (fun k => octet_Put.f k n (m : Int)) (put m n) := by
  refine ⟨m + 1, fun k hk => ?_⟩
  unfold octet_Put.f
  show octet_Put.l0 k n [] (wrap64 ((m : Int) - 1)) = _
  rw [wr (by omega) (by omega), Put_l0 n h0 h1 m k [] (by omega) (by rw [List.length_nil]; omega), List.nil_append]
theorem Put_neg (n : Int) (s : Int) (hs : s ≤ 0) (h2 : -9223372036854775807 ≤ s) : Ev (fun k => octet_Put.f k n s) [] := by
  refine ⟨1, fun k hk => ?_⟩
  obtain ⟨k, rfl⟩ : ∃ m, k = m + 1 := ⟨k - 1, by omega⟩
  show octet_Put.l0 (k + 1) n [] (wrap64 (s - 1)) = _
  rw [wr (by omega) (by omega)]
  simp only [octet_Put.l0]
  rw [if_neg (by omega)]
/-! #### octet_Get -/
theorem or_add (x y : Int) (h0 : 0 ≤ x) (h1 : x < 18446744073709551616) (hx : x % 256 = 0) (hy0 : 0 ≤ y) (hy1 : y < 256) : Go.bits .or .u64 x y = x + y :=
  bits_join .u64 64 (by decide) (fun n h0 h1 => wu h0 h1) 8 x y h0 hx h1 hy0 hy1 (Int.lt_trans hy1 (by decide))
theorem Get_l0 (l : List Int) (hb : IsB l) (hl : l.length ≤ 9223372036854775807) : ∀ (d k i : Nat), i + d = l.length → d < k → octet_Get.l0 k (get (l.take i)) l (l.length : Int) (i : Int) = some (get l) := by
  intro d
  induction d with
  | zero =>
    intro k i hi hk
    obtain ⟨k, rfl⟩ : ∃ m, k = m + 1 := ⟨k - 1, by omega⟩
    simp only [octet_Get.l0]
    rw [if_neg (by omega), List.take_of_length_le (by omega)]
  | succ d ih =>
    intro k i hi hk
    obtain ⟨k, rfl⟩ : ∃ m, k = m + 1 := ⟨k - 1, by omega⟩
    simp only [octet_Get.l0]
    have hc := hb l[i] (List.getElem_mem (by omega))
    have hg := get_range (l.take i)
    rw [if_pos (by omega), if_pos (by omega), if_pos (by omega), rd_at l i (by omega), wr (by omega) (by omega), wu (x := l[i]) hc.1 (by omega), wu_mod, or_add _ _ (by omega) (by omega) (by omega) hc.1 hc.2]
    have h := ih k (i + 1) (by omega) (by omega)
    rw [List.take_succ_eq_append_getElem (by omega), get_append] at h
    rw [show get (l.take i) * 256 % 18446744073709551616 + l[i] = (get (l.take i) * 256 + l[i]) % 18446744073709551616 by omega]
    rw [Int.natCast_add] at h
    exact h
theorem Get_ev (l : List Int) (hb : IsB l) (hl : l.length ≤ 9223372036854775807) : Ev (fun k => octet_Get.f k l) (get l) := by
  refine ⟨l.length + 1, fun k hk => ?_⟩
  have := Get_l0 l hb hl l.length k 0 (by omega) (by omega)
  unfold octet_Get.f
  simpa [get] using this
/-! #### deedboxlaw25_plain -/
theorem plain_l0 (s : ByteArray) (hs : s.size ≤ 9223372036854775806) : ∀ (d k i : Nat), i + d = s.size → d < k → ∃ b, deedboxlaw25_plain.l0 k s (i : Int) = some b ∧ (b = true → ∀ x ∈ (bytesOf s).drop i, 0 < x) := by
  intro d
  induction d with
  | zero =>
    intro k i hi hk
    obtain ⟨k, rfl⟩ : ∃ m, k = m + 1 := ⟨k - 1, by omega⟩
    simp only [deedboxlaw25_plain.l0]
    rw [if_neg (by omega)]
    refine ⟨true, rfl, fun _ x hx => ?_⟩
    rw [List.drop_of_length_le (by rw [bytesOf_length]; omega)] at hx
    cases hx
  | succ d ih =>
    intro k i hi hk
    obtain ⟨k, rfl⟩ : ∃ m, k = m + 1 := ⟨k - 1, by omega⟩
    simp only [deedboxlaw25_plain.l0]
    rw [if_pos (by omega), if_pos (by omega), wr (by omega) (by omega)]
    by_cases e : bt s (i : Int) = 0
    · rw [if_pos e]
      exact ⟨false, rfl, fun h => by cases h⟩
    · rw [if_neg e]
      obtain ⟨b, h1, h2⟩ := ih k (i + 1) (by omega) (by omega)
      rw [Int.natCast_add] at h1
      refine ⟨b, h1, fun hb x hx => ?_⟩
      rw [drop_at _ i (by rw [bytesOf_length]; omega)] at hx
      rcases List.mem_cons.1 hx with rfl | hx
      · have hr := rd_at (bytesOf s) i (by rw [bytesOf_length]; omega)
        rw [rd_bytesOf] at hr
        rw [← hr]
        have := bt_range s (i : Int)
        omega
      · exact h2 hb x hx
theorem plain_ev (s : ByteArray) (hs : s.size ≤ 9223372036854775806) : ∃ b, Ev (fun k => deedboxlaw25_plain.f k s) b ∧ (b = true → s.size ≤ 40 ∧ ∀ x ∈ bytesOf s, 0 < x) := by
  unfold deedboxlaw25_plain.f
  by_cases h : (s.size : Int) > 40
  · exact ⟨false, ev_pos h (Ev.now _), fun h => by cases h⟩
  · obtain ⟨b, h1, h2⟩ := plain_l0 s hs s.size (s.size + 1) 0 (by omega) (by omega)
    refine ⟨b, ev_neg h ⟨s.size + 1, fun k hk => ?_⟩, fun hb => ⟨by omega, h2 hb⟩⟩
    exact at_rounds (g := fun k => deedboxlaw25_plain.l0 k s 0) (fun k => deedboxlaw25_plain.mono_l k _ _) hk h1
/-! #### path's keys -/
theorem isB_bytesOf (s : ByteArray) : IsB (bytesOf s) := fun x hx => by
  obtain ⟨b, _, rfl⟩ := List.mem_map.1 hx
  have := b.toNat_lt
  omega
theorem pof_ev (c : Int) (l : List (List Int)) (hb : lens l < 140737488000000) (hl : l.length ≤ 100) : Ev (fun k => path_of.f k c l) (c :: l.flatten) := by
  unfold path_of.f
  refine ev_bind (Join_ev l (by omega) (by omega)) (ev_bind (a := c :: l.flatten) (ev_to (Join_ev _ ?_ (by simp)) (by simp)) (Ev.now _))
  rw [lens_cons, lens_cons, lens_flatten]
  simp [lens] at *
  omega
theorem ptwo_ev (n : Int) (h0 : 0 ≤ n) (h1 : n < 18446744073709551616) : Ev (fun k => path_two.f k n) (put 2 n) := by
  unfold path_two.f
  rw [wu h0 h1]
  exact ev_bind (Put_ev n 2 h0 h1 (by omega)) (Ev.now _)
theorem psix_ev (n : Int) (h0 : 0 ≤ n) (h1 : n < 18446744073709551616) : Ev (fun k => path_six.f k n) (put 6 n) := by
  unfold path_six.f
  rw [wu h0 h1]
  exact ev_bind (Put_ev n 6 h0 h1 (by omega)) (Ev.now _)
theorem lens1 (a : List Int) : lens [a] = a.length := by simp [lens]
theorem lens2 (a b : List Int) : lens [a, b] = a.length + b.length := by simp [lens]
theorem lens3 (a b c : List Int) : lens [a, b, c] = a.length + b.length + c.length := by simp [lens]; omega
theorem pVersions_ev (b : Int) (h0 : 0 ≤ b) (h1 : b < 18446744073709551616) : Ev (fun k => path_Versions.f k b) (118 :: put 2 b) := by
  unfold path_Versions.f
  exact ev_bind (ptwo_ev b h0 h1) (ev_bind (ev_to (pof_ev 118 [put 2 b] (by rw [lens1, put_length]; omega) (by simp)) (by simp)) (Ev.now _))
theorem pNames_ev (b : Int) (s : ByteArray) (h0 : 0 ≤ b) (h1 : b < 18446744073709551616) (hs : s.size ≤ 1000000) : Ev (fun k => path_Names.f k b s) (118 :: (put 2 b ++ bytesOf s ++ [0])) := by
  unfold path_Names.f
  refine ev_bind (pVersions_ev b h0 h1) (ev_pos (by omega) (ev_bind (ev_to (Join_ev _ ?_ (by simp)) (by simp)) (Ev.now _)))
  rw [lens3, bytesOf_length, List.length_cons, put_length]
  simp
  omega
theorem pVersion_ev (b : Int) (s : ByteArray) (n : Int) (h0 : 0 ≤ b) (h1 : b < 18446744073709551616) (hs : s.size ≤ 1000000) (hn0 : 0 ≤ n) (hn1 : n ≤ 281474976710655) : Ev (fun k => path_Version.f k b s n) (118 :: (put 2 b ++ bytesOf s ++ [0] ++ put 6 (281474976710655 - n))) := by
  unfold path_Version.f
  rw [wr (by omega) (by omega)]
  refine ev_bind (pNames_ev b s h0 h1 hs) (ev_bind (psix_ev _ (by omega) (by omega)) (ev_bind (ev_to (Join_ev _ ?_ (by simp)) (by simp)) (Ev.now _)))
  rw [lens2, put_length, List.length_cons, List.length_append, List.length_append, bytesOf_length, put_length]
  simp
  omega
theorem pUploads_ev (b : Int) (h0 : 0 ≤ b) (h1 : b < 18446744073709551616) : Ev (fun k => path_Uploads.f k b) (117 :: put 2 b) := by
  unfold path_Uploads.f
  exact ev_bind (ptwo_ev b h0 h1) (ev_bind (ev_to (pof_ev 117 [put 2 b] (by rw [lens1, put_length]; omega) (by simp)) (by simp)) (Ev.now _))
theorem pUpload_ev (b n : Int) (h0 : 0 ≤ b) (h1 : b < 18446744073709551616) (hn0 : 0 ≤ n) (hn1 : n < 18446744073709551616) : Ev (fun k => path_Upload.f k b n) (117 :: (put 2 b ++ put 6 n)) := by
  unfold path_Upload.f
  refine ev_bind (pUploads_ev b h0 h1) (ev_bind (psix_ev n hn0 hn1) (ev_bind (ev_to (Join_ev _ ?_ (by simp)) (by simp)) (Ev.now _)))
  rw [lens2, put_length, List.length_cons, put_length]
  omega
theorem pParts_ev (b n : Int) (h0 : 0 ≤ b) (h1 : b < 18446744073709551616) (hn0 : 0 ≤ n) (hn1 : n < 18446744073709551616) : Ev (fun k => path_Parts.f k b n) (112 :: (put 2 b ++ put 6 n)) := by
  unfold path_Parts.f
  exact ev_bind (ptwo_ev b h0 h1) (ev_bind (psix_ev n hn0 hn1) (ev_bind (ev_to (pof_ev 112 [put 2 b, put 6 n] (by rw [lens2, put_length, put_length]; omega) (by simp)) (by simp)) (Ev.now _)))
theorem pPart_ev (b n j : Int) (h0 : 0 ≤ b) (h1 : b < 18446744073709551616) (hn0 : 0 ≤ n) (hn1 : n < 18446744073709551616) (hj0 : 0 ≤ j) (hj1 : j < 18446744073709551616) : Ev (fun k => path_Part.f k b n j) (112 :: (put 2 b ++ put 6 n ++ put 2 j)) := by
  unfold path_Part.f
  refine ev_bind (pParts_ev b n h0 h1 hn0 hn1) (ev_bind (ptwo_ev j hj0 hj1) (ev_bind (ev_to (Join_ev _ ?_ (by simp)) (by simp)) (Ev.now _)))
  rw [lens2, put_length, List.length_cons, List.length_append, put_length, put_length]
  omega
/-! #### keys read -/
theorem wr_lo {n : Nat} (c : Int) (h : n ≤ 9223372036854775806) (hc : 0 ≤ c) (hc2 : c ≤ 1000) : wrap64 ((n : Int) - c) = (n : Int) - c := wr (by omega) (by omega)
theorem pReadVersion_ev (b2 mid p6 : List Int) (h2 : b2.length = 2) (h6 : p6.length = 6) (hb6 : IsB p6) (hm : 1 ≤ mid.length) (hm2 : mid.length ≤ 1000000) : Ev (fun k => path_ReadVersion.f k (118 :: (b2 ++ mid ++ [0] ++ p6))) (strOfNums mid, wrap64 (281474976710655 - wrap64 (get p6)), true) := by
  obtain ⟨l, hl⟩ : ∃ l, 118 :: (b2 ++ mid ++ [0] ++ p6) = l := ⟨_, rfl⟩
  have hlen : l.length = mid.length + 10 := by
    rw [← hl]
    simp [h2, h6]
    omega
  have h0 : rd l 0 = 118 := by rw [← hl]; rfl
  have h7 : rd l ((l.length : Int) - 7) = 0 := by
    have e : ((l.length : Int) - 7) = ((1 + 2 + mid.length : Nat) : Int) := by omega
    rw [e, rd_at l _ (by omega)]
    subst hl
    simp [List.getElem_cons, h2]
  have hd : l.drop (mid.length + 4) = p6 := by
    rw [← hl, show mid.length + 4 = (mid.length + 3) + 1 from rfl, List.drop_succ_cons]
    rw [List.drop_append_of_le_length (by simp [h2]; omega)]
    have : (b2 ++ mid ++ [0]).length ≤ mid.length + 3 := by simp [h2]; omega
    rw [List.drop_of_length_le this, List.nil_append]
  have ht : (l.take (mid.length + 3)).drop 3 = mid := by
    have e : l = (118 :: b2) ++ (mid ++ ([0] ++ p6)) := by rw [← hl]; simp
    rw [e, List.take_append, show (118 :: b2 : List Int).length = 3 by simp [h2], List.take_of_length_le (by simp [h2]), List.drop_append, show (118 :: b2 : List Int).length = 3 by simp [h2], List.drop_of_length_le (by simp [h2])]
    simp
  rw [hl]
  unfold path_ReadVersion.f
  rw [wr_lo 7 (by omega) (by decide) (by decide), wr_lo 6 (by omega) (by decide) (by decide)]
  refine ev_neg (by omega) (ev_pos (by omega) (ev_pos h0 (ev_pos (by omega) (ev_pos (by omega) (ev_pos h7 (ev_pos (by omega) (ev_pos (by omega) (ev_pos (by omega) (ev_pos (by omega) ?_)))))))))
  rw [show ((l.length : Int) - 6).toNat = mid.length + 4 by omega, show ((l.length : Int) - 7).toNat = mid.length + 3 by omega, hd, ht]
  exact ev_bind (Get_ev p6 hb6 (by omega)) (Ev.now _)
theorem pReadUpload_ev (b2 p6 : List Int) (h2 : b2.length = 2) (h6 : p6.length = 6) (hb6 : IsB p6) : Ev (fun k => path_ReadUpload.f k (117 :: (b2 ++ p6))) (wrap64 (get p6), true) := by
  obtain ⟨x, y, rfl⟩ : ∃ x y, b2 = [x, y] := by
    match b2, h2 with
    | [x, y], _ => exact ⟨x, y, rfl⟩
  unfold path_ReadUpload.f
  refine ev_pos (by simp [h6]) (ev_pos (by simp; omega) (ev_pos rfl (ev_pos (by simp; omega) ?_)))
  exact ev_bind (Get_ev p6 hb6 (by omega)) (Ev.now _)
theorem pReadPart_ev (b2 p6 p2 : List Int) (h2 : b2.length = 2) (h6 : p6.length = 6) (hp2 : p2.length = 2) (hb2 : IsB p2) : Ev (fun k => path_ReadPart.f k (112 :: (b2 ++ p6 ++ p2))) (wrap64 (get p2), true) := by
  unfold path_ReadPart.f
  have hd : (112 :: (b2 ++ p6 ++ p2)).drop 9 = p2 := by
    rw [show 9 = 8 + 1 from rfl, List.drop_succ_cons, List.drop_append, List.drop_of_length_le (by simp [h2, h6])]
    simp [h2, h6]
  refine ev_pos (by simp [h2, h6, hp2]) (ev_pos (by simp; omega) (ev_pos rfl (ev_pos (by simp [h2, h6, hp2]) ?_)))
  rw [hd]
  exact ev_bind (Get_ev p2 hb2 (by omega)) (Ev.now _)
theorem works_ok : Ev (fun k => deedboxlaw25_works.f k) true := Ev.of (fun k => deedboxlaw25_works.mono k) (k := 40) (by decide +kernel)
/-- PathBack: what the keys were made of is read again. -/
theorem PathBack : deedboxlaw25_PathBack.Pure := by
  intro a0 a1 a2 a3 w0 w1 w2 w3
  have h0 := wf_u16 w0
  have h2 := wf_u32 w2
  have h3 := wf_u16 w3
  refine Ev.rounds (g := fun k => deedboxlaw25_PathBack.f k a0 a1 a2 a3) ?_
  unfold deedboxlaw25_PathBack.f
  have wk : ∀ c, c = true → Ev (fun k => deedboxlaw25_PathBack.j0 k a0 a1 a2 a3 c) true := by
    rintro c rfl
    refine ev_succ ?_
    simp only [deedboxlaw25_PathBack.j0]
    exact ev_pos trivial (ev_bind works_ok (Ev.now _))
  obtain ⟨b, hb, hp⟩ := plain_ev a1 (by omega)
  refine ev_bind hb ?_
  cases b with
  | false => exact ev_neg (by decide) (wk true rfl)
  | true =>
    obtain ⟨h40, hz⟩ := hp rfl
    refine ev_pos rfl ?_
    by_cases e : (a1.size : Int) = 0
    · rw [beq_iff_eq.2 e]
      exact wk true rfl
    · rw [beq_eq_false_iff_ne.2 e]
      refine ev_succ ?_
      simp only [deedboxlaw25_PathBack.j0]
      refine ev_neg (by decide) ?_
      simp only [wr (x := a0) (by omega) (by omega), wr (x := a2) (by omega) (by omega), wr (x := a3) (by omega) (by omega)]
      have hv := pVersion_ev a0 a1 a2 (by omega) (by omega) (by omega) (by omega) (by omega)
      have hpt := pPart_ev a0 a2 a3 (by omega) (by omega) (by omega) (by omega) (by omega) (by omega)
      have l1 := bytesOf_length a1
      refine ev_bind hv (ev_bind (pReadVersion_ev (put 2 a0) (bytesOf a1) (put 6 (281474976710655 - a2)) (put_length _ _) (put_length _ _) (put_isB _ _) (by omega) (by omega)) (ev_bind (pUpload_ev a0 a2 (by omega) (by omega) (by omega) (by omega)) (ev_bind (pReadUpload_ev (put 2 a0) (put 6 a2) (put_length _ _) (put_length _ _) (put_isB _ _)) (ev_bind hpt (ev_bind (pReadPart_ev (put 2 a0) (put 6 a2) (put 2 a3) (put_length _ _) (put_length _ _) (put_length _ _) (put_isB _ _)) ?_)))))
      rw [get_put 6 (281474976710655 - a2) (by omega) (by omega) (by omega), get_put 6 a2 (by omega) (by omega) (by omega), get_put 2 a3 (by omega) (by omega) (by omega)]
      simp only [wr (x := 281474976710655 - a2) (by omega) (by omega)]
      rw [show (281474976710655 - (281474976710655 - a2) : Int) = a2 by omega]
      simp only [wr (x := a2) (by omega) (by omega), wr (x := a3) (by omega) (by omega)]
      refine ev_pos (by trivial) (ev_pos (by rw [str_bytes]) (ev_pos (by trivial) (ev_pos (by trivial) (ev_pos (by trivial) (ev_pos (by trivial) (ev_pos (by trivial) (ev_bind hv (ev_some (x := path_Fits.f _) (a := true) ?_ (ev_pos (by trivial) (ev_bind hpt (ev_some (x := path_Fits.f _) (a := true) ?_ (ev_pos (by trivial) (ev_pos (by decide) (ev_some (x := path_Fits.f _) (a := false) (by decide +kernel) (ev_neg (by decide) (ev_bind works_ok (Ev.now _)))))))))))))))))
      · unfold path_Fits.f
        rw [decide_eq_true]
        simp [put_length, l1]
        omega
      · unfold path_Fits.f
        rw [decide_eq_true]
        simp [put_length]
end Go.Proofs.Ytagoofdopgopoaa.Pure
