/- OctetReads: whatever a reader of any bytes is asked is what the chapter says. -/
import Derived.Test.YtagoofdopgopoaaPOctetReadsx5
import Derived.Laws.BitsLemmas
import Derived.Laws.Strings
import Derived.Lib.SmallJoins
namespace Go.Proofs.Ytagoofdopgopoaa.Pure
open Go.RowKit Go.Proofs.Ytagoofdopgopoaa.POctetReads Go.Proofs.YtagoofdopgopoaaW.PrintWords Go.Proofs.YtagoofdopgopoaaW.PrintLast Go.Proofs.YtagoofdopgopoaaW.PrintMore
set_option linter.unusedVariables false
set_option linter.unusedSimpArgs false
/-! #### bytes and numbers -/
def IsB (l : List Int) : Prop := ∀ x ∈ l, 0 ≤ x ∧ x < 256
theorem isB_wf {l : List Int} (h : ∀ x ∈ l, (Lit.int .u8 x).wf = true) : IsB l := fun x hx => by
  have := h x hx
  simp [Lit.wf, IntKind.min, IntKind.max, IntKind.bits, IntKind.signed] at this
  omega
theorem wf_u16 {x : Int} (h : (Lit.int .u16 x).wf = true) : 0 ≤ x ∧ x < 65536 := by
  simp [Lit.wf, IntKind.min, IntKind.max, IntKind.bits, IntKind.signed] at h
  omega
theorem wf_u32 {x : Int} (h : (Lit.int .u32 x).wf = true) : 0 ≤ x ∧ x < 4294967296 := by
  simp [Lit.wf, IntKind.min, IntKind.max, IntKind.bits, IntKind.signed] at h
  omega
theorem wf_u64 {x : Int} (h : (Lit.int .u64 x).wf = true) : 0 ≤ x ∧ x < 18446744073709551616 := by
  simp [Lit.wf, IntKind.min, IntKind.max, IntKind.bits, IntKind.signed] at h
  omega
theorem wf_u8 {x : Int} (h : (Lit.int .u8 x).wf = true) : 0 ≤ x ∧ x < 256 := by
  simp [Lit.wf, IntKind.min, IntKind.max, IntKind.bits, IntKind.signed] at h
  omega
theorem wf_i64 {x : Int} (h : (Lit.int .i64 x).wf = true) : -9223372036854775808 ≤ x ∧ x < 9223372036854775808 := by
  simp [Lit.wf, IntKind.min, IntKind.max, IntKind.bits, IntKind.signed] at h
  omega
theorem wr {x : Int} (h0 : -9223372036854775808 ≤ x) (h1 : x < 9223372036854775808) : wrap64 x = x := by
  unfold wrap64
  omega
theorem wu {x : Int} (h0 : 0 ≤ x) (h1 : x < 18446744073709551616) : IntKind.u64.wrap x = x := by
  simp [IntKind.wrap, IntKind.bits, IntKind.signed]
  omega
theorem wu_mod (x : Int) : IntKind.u64.wrap x = x % 18446744073709551616 := by
  simp [IntKind.wrap, IntKind.bits, IntKind.signed]
theorem isB_nil : IsB [] := fun x hx => by cases hx
theorem isB_append {a b : List Int} (ha : IsB a) (hb : IsB b) : IsB (a ++ b) := fun x hx => by
  rcases List.mem_append.1 hx with h | h
  · exact ha x h
  · exact hb x h
theorem isB_cons {x : Int} {l : List Int} (h0 : 0 ≤ x) (h1 : x < 256) (hl : IsB l) : IsB (x :: l) := fun y hy => by
  rcases List.mem_cons.1 hy with rfl | h
  · exact ⟨h0, h1⟩
  · exact hl y h
theorem isB_tail {x : Int} {l : List Int} (h : IsB (x :: l)) : IsB l := fun y hy => h y (List.mem_cons_of_mem _ hy)
theorem isB_head {x : Int} {l : List Int} (h : IsB (x :: l)) : 0 ≤ x ∧ x < 256 := h x List.mem_cons_self
theorem isB_left {a b : List Int} (h : IsB (a ++ b)) : IsB a := fun x hx => h x (List.mem_append_left _ hx)
theorem isB_right {a b : List Int} (h : IsB (a ++ b)) : IsB b := fun x hx => h x (List.mem_append_right _ hx)
theorem rd_at (l : List Int) (i : Nat) (h : i < l.length) : rd l (i : Int) = l[i] := by
  unfold rd
  rw [Int.toNat_natCast, List.getD_eq_getElem?_getD, List.getElem?_eq_getElem h, Option.getD_some]
theorem drop_at {α : Type} (l : List α) (i : Nat) (h : i < l.length) : l.drop i = l[i] :: l.drop (i + 1) := List.drop_eq_getElem_cons h
/-- The number n in m bytes, the highest first. -/
def put : Nat → Int → List Int
  | 0, _ => []
  | m + 1, n => put m (n / 256) ++ [n % 256]
theorem put_length (m : Nat) : ∀ n, (put m n).length = m := by
  induction m with
  | zero => intro n; rfl
  | succ m ih => intro n; rw [put, List.length_append, ih]; rfl
theorem put_isB (m : Nat) : ∀ n, IsB (put m n) := by
  induction m with
  | zero => intro n; exact isB_nil
  | succ m ih => intro n; exact isB_append (ih _) (isB_cons (by omega) (by omega) isB_nil)
theorem put_cons (m : Nat) : ∀ n : Int, 0 ≤ n → put (m + 1) n = (n / 256 ^ m % 256) :: put m n := by
  induction m with
  | zero => intro n _; simp [put]
  | succ m ih =>
    intro n hn
    rw [put, ih (n / 256) (by omega), List.cons_append]
    rw [show put (m + 1) n = put m (n / 256) ++ [n % 256] from rfl]
    congr 1
    rw [Int.ediv_ediv_of_nonneg (by omega), Int.pow_succ, Int.mul_comm]
/-- The number of bytes, the highest first, as 64 bits hold it. -/
def get (l : List Int) : Int := l.foldl (fun n c => (n * 256 + c) % 18446744073709551616) 0
def getz (l : List Int) : Int := l.foldl (fun n c => n * 256 + c) 0
theorem getz_append (l : List Int) (c : Int) : getz (l ++ [c]) = getz l * 256 + c := by simp [getz, List.foldl_append]
theorem get_append (l : List Int) (c : Int) : get (l ++ [c]) = (get l * 256 + c) % 18446744073709551616 := by simp [get, List.foldl_append]
theorem get_range (l : List Int) : 0 ≤ get l ∧ get l < 18446744073709551616 := by
  rcases List.eq_nil_or_concat l with rfl | ⟨a, c, rfl⟩
  · simp [get]
  · rw [List.concat_eq_append, get_append]
    omega
theorem getz_put (m : Nat) : ∀ n : Int, 0 ≤ n → n < 256 ^ m → getz (put m n) = n := by
  induction m with
  | zero => intro n h0 h1; simp at h1; simp [put, getz]; omega
  | succ m ih =>
    intro n h0 h1
    rw [put, getz_append, ih (n / 256) (by omega) (by rw [Int.pow_succ] at h1; exact Int.ediv_lt_of_lt_mul (by decide) h1)]
    omega
theorem rev_ind {α : Type} {P : List α → Prop} (h0 : P []) (h1 : ∀ l c, P l → P (l ++ [c])) (l : List α) : P l := by
  have h : ∀ m : List α, P m.reverse := by
    intro m
    induction m with
    | nil => exact h0
    | cons c m ih => rw [List.reverse_cons]; exact h1 _ _ ih
  have := h l.reverse
  rwa [List.reverse_reverse] at this
theorem getz_nonneg (l : List Int) : IsB l → 0 ≤ getz l := by
  refine rev_ind (P := fun l => IsB l → 0 ≤ getz l) (fun _ => by simp [getz]) (fun l c ih h => ?_) l
  rw [getz_append]
  have := ih (isB_left h)
  have := isB_head (isB_right h)
  omega
theorem get_getz (l : List Int) : get l = getz l % 18446744073709551616 := by
  refine rev_ind (P := fun l => get l = getz l % 18446744073709551616) (by simp [get, getz]) (fun l c ih => ?_) l
  rw [get_append, getz_append, ih]
  omega
theorem get_put (m : Nat) (n : Int) (h0 : 0 ≤ n) (h1 : n < 256 ^ m) (h2 : n < 18446744073709551616) : get (put m n) = n := by
  rw [get_getz, getz_put m n h0 h1]
  omega
theorem ev_pos {α : Type} {c : Prop} [Decidable c] {f g : Nat → Option α} {r : α} (h : c) (k : Ev f r) : Ev (fun n => if c then f n else g n) r := by
  obtain ⟨K, k⟩ := k
  exact ⟨K, fun n hn => by simp only [if_pos h]; exact k n hn⟩
theorem ev_neg {α : Type} {c : Prop} [Decidable c] {f g : Nat → Option α} {r : α} (h : ¬ c) (k : Ev g r) : Ev (fun n => if c then f n else g n) r := by
  obtain ⟨K, k⟩ := k
  exact ⟨K, fun n hn => by simp only [if_neg h]; exact k n hn⟩
theorem ev_bind {α β : Type} {g : Nat → Option α} {f : Nat → α → Option β} {a : α} {r : β} (h : Ev g a) (k : Ev (fun n => f n a) r) : Ev (fun n => (g n).bind (f n)) r := Ev.bind h k
theorem ev_some {α β : Type} {x : Option α} {f : Nat → α → Option β} {a : α} {r : β} (h : x = some a) (k : Ev (fun n => f n a) r) : Ev (fun n => x.bind (f n)) r := by
  subst h
  exact k
theorem ev_to {α : Type} {g : Nat → Option α} {r r' : α} (h : Ev g r) (e : r = r') : Ev g r' := by
  subst e
  exact h
theorem ev_at {α : Type} {g : Nat → Option α} {r : α} (K : Nat) (h : ∀ k, K ≤ k → g k = some r) : Ev g r := ⟨K, h⟩
/-- One round of a loop: the rounds are counted down first. -/
theorem ev_succ {α : Type} {g : Nat → Option α} {r : α} (k : Ev (fun n => g (n + 1)) r) : Ev g r := Ev.step (fun _ => rfl) k
theorem take_split' {α : Type} (l : List α) (n : Nat) (h : n < l.length) : l.take (n + 1) = l.take n ++ [l[n]] := List.take_succ_eq_append_getElem h
/-! #### strings and bytes -/
theorem str_bytes (s : ByteArray) : strOfNums (bytesOf s) = s := by
  have h : (strOfNums (bytesOf s)).data.toList = s.data.toList := by
    rw [strOfNums_data, bytesOf, List.map_map]
    refine (List.map_congr_left fun b _ => ?_).trans (List.map_id _)
    simp
  rcases s with ⟨a⟩
  have h2 := congrArg List.toArray h
  simp only [Array.toArray_toList] at h2
  exact congrArg ByteArray.mk h2
theorem bytesOf_inj {a b : ByteArray} (h : bytesOf a = bytesOf b) : a = b := by rw [← str_bytes a, h, str_bytes b]
theorem toList_map (s : ByteArray) : s.toList.map (fun b => (b.toNat : Int)) = bytesOf s := by rw [ByteArray.toList_eq]; rfl
theorem toList_inj {a b : ByteArray} (h : a.toList = b.toList) : a = b := bytesOf_inj (by rw [← toList_map, ← toList_map, h])
theorem nums_str {l : List Int} (h : IsB l) : bytesOf (strOfNums l) = l := by
  unfold bytesOf
  rw [strOfNums_data, List.map_map]
  refine (List.map_congr_left fun x hx => ?_).trans (List.map_id _)
  have := h x hx
  simp
  omega
theorem str_toList (l : List Int) (s : ByteArray) (h : l = bytesOf s) : (strOfNums l).toList = s.toList := by rw [h, str_bytes]
/-- Byte by byte less. -/
def less : List Int → List Int → Bool
  | _, [] => false
  | [], _ :: _ => true
  | a :: x, b :: y => decide (a < b) || (a == b && less x y)
theorem less_self (x : List Int) : less x x = false := by
  induction x with
  | nil => rfl
  | cons a x ih => simp [less, ih]
theorem less_pre (p x y : List Int) : less (p ++ x) (p ++ y) = less x y := by
  induction p with
  | nil => rfl
  | cons a p ih => simp [less, ih]
theorem bytesLess_less (x y : List UInt8) : Op.bytesLess x y = less (x.map fun b => (b.toNat : Int)) (y.map fun b => (b.toNat : Int)) := by
  induction x generalizing y with
  | nil => cases y <;> simp [Op.bytesLess, less]
  | cons a x ih =>
    cases y with
    | nil => simp [Op.bytesLess, less]
    | cons b y =>
      simp only [Op.bytesLess, less, List.map_cons, ih]
      congr 1
      · rw [Bool.eq_iff_iff]
        simp [UInt8.lt_iff_toNat_lt]
      · congr 1
        rw [Bool.eq_iff_iff]
        simp [← UInt8.toNat_inj]
        omega
theorem strLess (a b : ByteArray) : Op.bytesLess a.toList b.toList = less (bytesOf a) (bytesOf b) := by rw [bytesLess_less, toList_map, toList_map]
theorem less_put (m : Nat) : ∀ x y : Int, 0 ≤ x → 0 ≤ y → x < 256 ^ m → y < 256 ^ m → less (put m x) (put m y) = decide (x < y) := by
  have snoc : ∀ (a b : List Int) (c d : Int), a.length = b.length → less (a ++ [c]) (b ++ [d]) = (less a b || (a == b && decide (c < d))) := by
    intro a
    induction a with
    | nil => intro b c d h; cases b with | nil => simp [less] | cons => cases h
    | cons u a ih =>
      intro b c d h
      cases b with
      | nil => cases h
      | cons v b =>
        simp only [List.cons_append, less]
        rw [ih b c d (by simpa using h)]
        by_cases e : u = v
        · subst e; simp
        · have hq : (u == v) = false := beq_eq_false_iff_ne.2 e
          simp [hq]
  have inj : ∀ (m : Nat) (x y : Int), 0 ≤ x → 0 ≤ y → x < 256 ^ m → y < 256 ^ m → put m x = put m y → x = y := by
    intro m x y h0 h1 h2 h3 h
    rw [← getz_put m x h0 h2, h, getz_put m y h1 h3]
  induction m with
  | zero => intro x y h0 h1 h2 h3; simp at h2 h3; simp [put, less]; omega
  | succ m ih =>
    intro x y h0 h1 h2 h3
    rw [Int.pow_succ] at h2 h3
    have a1 := Int.ediv_lt_of_lt_mul (by decide) h2
    have a2 := Int.ediv_lt_of_lt_mul (by decide) h3
    rw [put, put, snoc _ _ _ _ (by rw [put_length, put_length]), ih _ _ (by omega) (by omega) a1 a2]
    rw [Bool.eq_iff_iff]
    simp only [Bool.or_eq_true, decide_eq_true_eq, Bool.and_eq_true, beq_iff_eq]
    constructor
    · rintro (h | ⟨h, h'⟩)
      · omega
      · have := inj m _ _ (by omega) (by omega) a1 a2 h
        omega
    · intro h
      by_cases e : x / 256 = y / 256
      · right
        rw [e]
        exact ⟨rfl, by omega⟩
      · left
        omega
theorem less_zero (a b p q : List Int) (ha : ∀ x ∈ a, 0 < x) (hb : ∀ x ∈ b, 0 < x) (h : a ≠ b) : less (a ++ 0 :: p) (b ++ 0 :: q) = less a b := by
  induction a generalizing b with
  | nil =>
    cases b with
    | nil => exact absurd rfl h
    | cons v b =>
      have := hb v List.mem_cons_self
      simp [less, this]
  | cons u a ih =>
    cases b with
    | nil =>
      have := ha u List.mem_cons_self
      simp [less]
      omega
    | cons v b =>
      simp only [List.cons_append, less]
      by_cases e : u = v
      · subst e
        rw [ih b (fun x hx => ha x (List.mem_cons_of_mem _ hx)) (fun x hx => hb x (List.mem_cons_of_mem _ hx)) (fun e => h (by rw [e]))]
      · rw [show (u == v) = false from beq_eq_false_iff_ne.2 e, Bool.false_and, Bool.false_and]
theorem bytesOf_data_inj {a b : ByteArray} (h : a.data.toList = b.data.toList) : a = b := bytesOf_inj (by unfold bytesOf; rw [h])
/-! #### deedboxref01_Same -/
theorem Same_l0 (a b : List Int) (hl : a.length = b.length) (hm : a.length ≤ 9223372036854775807) : ∀ (d k i : Nat), i + d = a.length → d < k → deedboxref01_Same.l0 k a b (i : Int) = some (decide (a.drop i = b.drop i)) := by
  intro d
  induction d with
  | zero =>
    intro k i hi hk
    obtain ⟨k, rfl⟩ : ∃ m, k = m + 1 := ⟨k - 1, by omega⟩
    simp only [deedboxref01_Same.l0]
    rw [if_neg (by omega), List.drop_of_length_le (by omega), List.drop_of_length_le (by omega)]
    simp
  | succ d ih =>
    intro k i hi hk
    obtain ⟨k, rfl⟩ : ∃ m, k = m + 1 := ⟨k - 1, by omega⟩
    simp only [deedboxref01_Same.l0]
    rw [if_pos (by omega), if_pos (by omega), if_pos (by omega), rd_at a i (by omega), rd_at b i (by omega), wr (by omega) (by omega), drop_at a i (by omega), drop_at b i (by omega)]
    have h := ih k (i + 1) (by omega) (by omega)
    rw [Int.natCast_add] at h
    by_cases e : a[i] = b[i]
    · rw [if_pos e, e]
      refine h.trans (congrArg some (decide_eq_decide.2 ?_))
      rw [List.cons.injEq]
      exact ⟨fun h => ⟨rfl, h⟩, fun h => h.2⟩
    · rw [if_neg e, decide_eq_false]
      rw [List.cons.injEq]
      exact fun h => e h.1
theorem Same_ev (a b : List Int) (hm : a.length ≤ 9223372036854775807) : Ev (fun k => deedboxref01_Same.f k a b) (decide (a = b)) := by
  unfold deedboxref01_Same.f
  by_cases hl : a.length = b.length
  · refine ev_pos (by omega) ⟨a.length + 1, fun k hk => ?_⟩
    have := Same_l0 a b hl hm a.length k 0 (by omega) (by omega)
    simpa using this
  · refine ev_neg (by omega) ⟨0, fun k _ => ?_⟩
    rw [decide_eq_false]
    rintro rfl
    exact hl rfl
theorem Same_self (a b : List Int) (hm : a.length ≤ 9223372036854775807) (h : a = b) : Ev (fun k => deedboxref01_Same.f k a b) true := ev_to (Same_ev a b hm) (by rw [decide_eq_true h])
/-! #### octet_Join -/
def lens (l : List (List Int)) : Nat := (l.map List.length).sum
theorem lens_append (a b : List (List Int)) : lens (a ++ b) = lens a + lens b := by simp [lens]
theorem lens_cons (x : List Int) (b : List (List Int)) : lens (x :: b) = x.length + lens b := by simp [lens]
theorem lens_flatten (a : List (List Int)) : a.flatten.length = lens a := by simp [lens, List.length_flatten]
theorem rdL_at (l : List (List Int)) (i : Nat) (h : i < l.length) : rd_L1 l (i : Int) = l[i] := by
  unfold rd_L1
  rw [Int.toNat_natCast, List.getD_eq_getElem?_getD, List.getElem?_eq_getElem h, Option.getD_some]
theorem take_at {α : Type} (l : List α) (i : Nat) (h : i < l.length) : l.take (i + 1) = l.take i ++ [l[i]] := by
  rw [List.take_succ_eq_append_getElem h]
theorem lens_take (l : List (List Int)) (i : Nat) : lens (l.take i) ≤ lens l := by
  have := lens_append (l.take i) (l.drop i)
  rw [List.take_append_drop] at this
  omega
theorem Join_l1 (l : List (List Int)) (hb : lens l < 140737488355328) (hl : l.length ≤ 9223372036854775807) : ∀ (d k i : Nat), i + d = l.length → d < k → octet_Join.l1 k (l.take i).flatten l (l.length : Int) (i : Int) = some l.flatten := by
  intro d
  induction d with
  | zero =>
    intro k i hi hk
    obtain ⟨k, rfl⟩ : ∃ m, k = m + 1 := ⟨k - 1, by omega⟩
    simp only [octet_Join.l1]
    rw [if_neg (by omega), List.take_of_length_le (by omega)]
  | succ d ih =>
    intro k i hi hk
    obtain ⟨k, rfl⟩ : ∃ m, k = m + 1 := ⟨k - 1, by omega⟩
    simp only [octet_Join.l1]
    have h1 := lens_take l (i + 1)
    rw [take_at l i (by omega), lens_append] at h1
    have h2 : lens [l[i]] = l[i].length := by simp [lens]
    rw [if_pos (by omega), if_pos (by omega), if_pos (by omega), rdL_at l i (by omega), if_pos (by rw [lens_flatten]; omega), wr (by omega) (by omega)]
    have h := ih k (i + 1) (by omega) (by omega)
    rw [take_at l i (by omega), List.flatten_append] at h
    simpa using h
theorem Join_l0 (l : List (List Int)) (hb : lens l < 140737488355328) (hl : l.length ≤ 9223372036854775807) : ∀ (d k i : Nat), i + d = l.length → d + l.length + 1 < k → octet_Join.l0 k l (lens (l.take i) : Int) l (l.length : Int) (i : Int) = some l.flatten := by
  intro d
  induction d with
  | zero =>
    intro k i hi hk
    obtain ⟨k, rfl⟩ : ∃ m, k = m + 1 := ⟨k - 1, by omega⟩
    simp only [octet_Join.l0]
    have h := Join_l1 l hb hl l.length k 0 (by omega) (by omega)
    have h1 := lens_take l i
    rw [if_neg (by omega), if_pos (by omega), if_pos (by omega)]
    simpa using h
  | succ d ih =>
    intro k i hi hk
    obtain ⟨k, rfl⟩ : ∃ m, k = m + 1 := ⟨k - 1, by omega⟩
    simp only [octet_Join.l0]
    have h1 := lens_take l (i + 1)
    have h := ih k (i + 1) (by omega) (by omega)
    rw [take_at l i (by omega), lens_append] at h1 h
    have h2 : lens [l[i]] = l[i].length := by simp [lens]
    rw [if_pos (by omega), if_pos (by omega), if_pos (by omega), rdL_at l i (by omega), wr (by omega) (by omega), wr (by omega) (by omega)]
    rw [h2] at h
    rw [Int.natCast_add, Int.natCast_add] at h
    exact h
theorem Join_ev (l : List (List Int)) (hb : lens l < 140737488355328) (hl : l.length ≤ 9223372036854775807) : Ev (fun k => octet_Join.f k l) l.flatten := by
  refine ⟨2 * l.length + 2, fun k hk => ?_⟩
  have := Join_l0 l hb hl l.length k 0 (by omega) (by omega)
  unfold octet_Join.f
  simpa [lens] using this
/-! #### octet_Get -/
theorem or_add (x y : Int) (h0 : 0 ≤ x) (h1 : x < 18446744073709551616) (hx : x % 256 = 0) (hy0 : 0 ≤ y) (hy1 : y < 256) : Go.bits .or .u64 x y = x + y :=
  bits_join .u64 64 (by decide) (fun n h0 h1 => wu h0 h1) 8 x y h0 hx h1 hy0 hy1 (Int.lt_trans hy1 (by decide))
theorem Get_l0 (l : List Int) (hb : IsB l) (hl : l.length ≤ 9223372036854775807) : ∀ (d k i : Nat), i + d = l.length → d < k → octet_Get.l0 k (get (l.take i)) l (l.length : Int) (i : Int) = some (get l) := by
  intro d
  induction d with
  | zero =>
    intro k i hi hk
    obtain ⟨k, rfl⟩ : ∃ m, k = m + 1 := ⟨k - 1, by omega⟩
    simp only [octet_Get.l0]
    rw [if_neg (by omega), List.take_of_length_le (by omega)]
  | succ d ih =>
    intro k i hi hk
    obtain ⟨k, rfl⟩ : ∃ m, k = m + 1 := ⟨k - 1, by omega⟩
    simp only [octet_Get.l0]
    have hc := hb l[i] (List.getElem_mem (by omega))
    have hg := get_range (l.take i)
    rw [if_pos (by omega), if_pos (by omega), if_pos (by omega), rd_at l i (by omega), wr (by omega) (by omega), wu (x := l[i]) hc.1 (by omega), wu_mod, or_add _ _ (by omega) (by omega) (by omega) hc.1 hc.2]
    have h := ih k (i + 1) (by omega) (by omega)
    rw [List.take_succ_eq_append_getElem (by omega), get_append] at h
    rw [show get (l.take i) * 256 % 18446744073709551616 + l[i] = (get (l.take i) * 256 + l[i]) % 18446744073709551616 by omega]
    rw [Int.natCast_add] at h
    exact h
theorem Get_ev (l : List Int) (hb : IsB l) (hl : l.length ≤ 9223372036854775807) : Ev (fun k => octet_Get.f k l) (get l) := by
  refine ⟨l.length + 1, fun k hk => ?_⟩
  have := Get_l0 l hb hl l.length k 0 (by omega) (by omega)
  unfold octet_Get.f
  simpa [get] using this
/-! #### deedboxref01_Get -/
theorem rGet_l0 (l : List Int) (hb : IsB l) (hl : l.length ≤ 9223372036854775807) : ∀ (d k i : Nat), i + d = l.length → d < k → deedboxref01_Get.l0 k l (get (l.take i)) (i : Int) = some (get l) := by
  intro d
  induction d with
  | zero =>
    intro k i hi hk
    obtain ⟨k, rfl⟩ : ∃ m, k = m + 1 := ⟨k - 1, by omega⟩
    simp only [deedboxref01_Get.l0]
    rw [if_neg (by omega), List.take_of_length_le (by omega)]
  | succ d ih =>
    intro k i hi hk
    obtain ⟨k, rfl⟩ : ∃ m, k = m + 1 := ⟨k - 1, by omega⟩
    simp only [deedboxref01_Get.l0]
    have hc := hb l[i] (List.getElem_mem (by omega))
    have hg := get_range (l.take i)
    rw [if_pos (by omega), if_pos (by omega), rd_at l i (by omega), wr (by omega) (by omega)]
    have h := ih k (i + 1) (by omega) (by omega)
    rw [List.take_succ_eq_append_getElem (by omega), get_append] at h
    rw [Int.natCast_add] at h
    simp only [wu_mod]
    rw [show (get (l.take i) * 256 % 18446744073709551616 + l[i] % 18446744073709551616) % 18446744073709551616 = (get (l.take i) * 256 + l[i]) % 18446744073709551616 by omega]
    exact h
theorem rGet_ev (l : List Int) (hb : IsB l) (hl : l.length ≤ 9223372036854775807) : Ev (fun k => deedboxref01_Get.f k l) (get l) := by
  refine ⟨l.length + 1, fun k hk => ?_⟩
  have := rGet_l0 l hb hl l.length k 0 (by omega) (by omega)
  unfold deedboxref01_Get.f
  simpa [get] using this
theorem works_ok : Ev (fun k => deedboxlaw01_works.f k) true := Ev.of (fun k => deedboxlaw01_works.mono k) (k := 40) (by decide +kernel)
/-! #### the readers, both ways -/
theorem taken_isB {s : List Int} (hb : IsB s) (c n : Int) : IsB (taken s c n) := by
  unfold taken
  split
  · split
    · split
      · exact fun x hx => hb x (List.mem_of_mem_take hx)
      · exact isB_nil
    · exact isB_nil
  · exact isB_nil
theorem taken_len (s : List Int) (c n : Int) : (taken s c n).length ≤ s.length := by
  unfold taken
  split
  · split
    · split
      · rw [List.length_take]; omega
      · simp
    · simp
  · simp
theorem left_isB {s : List Int} (hb : IsB s) (c n : Int) : IsB (POctetReads.leftOf s c n) := by
  unfold POctetReads.leftOf
  split
  · split
    · split
      · exact fun x hx => hb x (List.mem_of_mem_drop hx)
      · exact hb
    · exact hb
  · exact hb
theorem left_len (s : List Int) (c n : Int) : (POctetReads.leftOf s c n).length ≤ s.length := by
  unfold POctetReads.leftOf
  split
  · split
    · split
      · rw [List.length_drop]; omega
      · omega
    · omega
  · omega
theorem rBytes_eq (s : List Int) (c n : Int) : deedboxref01_Bytes.f s c n = some (POctetReads.leftOf s c n, codeOf s c n, taken s c n) := by
  unfold deedboxref01_Bytes.f deedboxref01_fail.f POctetReads.leftOf codeOf taken
  by_cases h1 : c = 0
  · rw [if_pos h1, if_pos h1, if_pos h1, if_pos h1, if_pos h1]
    by_cases h2 : n < 0
    · rw [if_pos h2, if_neg (by omega), if_neg (by omega), if_neg (by omega)]
      rfl
    · rw [if_neg h2, if_pos (show 0 ≤ n by omega)]
      by_cases h3 : n ≤ (s.length : Int)
      · rw [if_neg (by omega), if_pos (by omega), if_pos h3]
        simp only [if_pos h3, if_pos (show 0 ≤ n by omega)]
      · rw [if_pos (by omega)]
        simp only [if_neg h3, if_pos (show 0 ≤ n by omega)]
        rfl
  · rw [if_neg h1, if_neg h1, if_neg h1, if_neg h1]
theorem oBytes_ev (s : List Int) (c n : Int) (hl : s.length ≤ 3000) : Ev (fun k => octet_Reader_Bytes.f k s c n) (taken s c n, POctetReads.leftOf s c n, codeOf s c n) := by
  have := taken_len s c n
  unfold octet_Reader_Bytes.f
  exact ev_bind (Join_ev [taken s c n] (by simp [lens]; omega) (by simp)) (ev_to (Ev.now _) (by simp))
theorem oNumber_ev (s : List Int) (c n : Int) (hb : IsB s) (hl : s.length ≤ 3000) : Ev (fun k => octet_Reader_Number.f k s c n) (get (taken s c n), POctetReads.leftOf s c n, codeOf s c n) := by
  have := taken_len s c n
  unfold octet_Reader_Number.f
  exact ev_bind (Get_ev _ (taken_isB hb c n) (by omega)) (Ev.now _)
theorem rNumber_ev (s : List Int) (c n : Int) (hb : IsB s) (hl : s.length ≤ 3000) : Ev (fun k => deedboxref01_Number.f k s c n) (POctetReads.leftOf s c n, codeOf s c n, get (taken s c n)) := by
  have := taken_len s c n
  unfold deedboxref01_Number.f
  exact ev_some (rBytes_eq s c n) (ev_bind (rGet_ev _ (taken_isB hb c n) (by show (taken s c n).length ≤ _; omega)) (Ev.now _))
theorem fail_eq (s : List Int) (c x : Int) : octet_Reader_Fail.f s c x = some (s, if c = 0 then x else c) := by
  unfold octet_Reader_Fail.f
  split <;> rfl
theorem rfail_eq (s : List Int) (c x : Int) : deedboxref01_fail.f s c x = some (s, if c = 0 then x else c) := by
  unfold deedboxref01_fail.f
  split <;> rfl
/-- What both texts are: the bytes, the bytes that are left, the code. -/
theorem Text_both (s : List Int) (c n m : Int) (hb : IsB s) (hl : s.length ≤ 3000) : ∃ t s' c', Ev (fun k => octet_Reader_Text.f k s c n m) (t, s', c') ∧ Ev (fun k => deedboxref01_Text.f k s c n m) (s', c', t) ∧ IsB s' ∧ s'.length ≤ 3000 ∧ t.length ≤ 3000 := by
  have hb1 := left_isB hb c n
  have hl1 := left_len s c n
  have hN := oNumber_ev s c n hb hl
  have hR := rNumber_ev s c n hb hl
  have hm : ∀ r : List Int × Int × List Int, (Ev (fun k => deedboxref01_Text.j0 k (get (taken s c n)) (mx m 0) (POctetReads.leftOf s c n) (codeOf s c n)) r) → Ev (fun k => deedboxref01_Text.f k s c n m) r := by
    intro r h
    unfold deedboxref01_Text.f
    refine ev_bind hR ?_
    unfold mx at h
    by_cases h0 : m < 0
    · rw [if_pos h0] at h
      exact ev_pos h0 h
    · rw [if_neg h0] at h
      exact ev_neg h0 h
  by_cases h1 : codeOf s c n = 0
  · by_cases h2 : get (taken s c n) > IntKind.u64.wrap (mx m 0)
    · refine ⟨[], POctetReads.leftOf s c n, 4, ?_, hm _ ?_, hb1, by omega, by simp⟩
      · unfold octet_Reader_Text.f
        refine ev_bind hN (ev_pos h1 (ev_succ ?_))
        simp only [octet_Reader_Text.j0]
        rw [decide_eq_true h2]
        refine ev_pos rfl (ev_some (fail_eq _ _ _) ?_)
        rw [if_pos h1]
        exact ev_neg (show ¬ ((4 : Int) = 0) by decide) (Ev.now _)
      · refine ev_succ ?_
        simp only [deedboxref01_Text.j0]
        refine ev_pos h1 (ev_succ ?_)
        simp only [deedboxref01_Text.j1]
        rw [decide_eq_true h2]
        refine ev_pos rfl (ev_some (rfail_eq _ _ _) ?_)
        rw [if_pos h1]
        exact Ev.now _
    · have ht := taken_len (POctetReads.leftOf s c n) 0 (wrap64 (get (taken s c n)))
      have hl2 := left_len (POctetReads.leftOf s c n) 0 (wrap64 (get (taken s c n)))
      refine ⟨taken (POctetReads.leftOf s c n) 0 (wrap64 (get (taken s c n))), POctetReads.leftOf (POctetReads.leftOf s c n) 0 (wrap64 (get (taken s c n))), codeOf (POctetReads.leftOf s c n) 0 (wrap64 (get (taken s c n))), ?_, hm _ ?_, left_isB hb1 _ _, by omega, by omega⟩
      · unfold octet_Reader_Text.f
        refine ev_bind hN (ev_pos h1 (ev_succ ?_))
        simp only [octet_Reader_Text.j0]
        rw [decide_eq_false h2, h1]
        exact ev_neg (by decide) (ev_pos rfl (ev_bind (oBytes_ev _ 0 _ (by omega)) (Ev.now _)))
      · refine ev_succ ?_
        simp only [deedboxref01_Text.j0]
        refine ev_pos h1 (ev_succ ?_)
        simp only [deedboxref01_Text.j1]
        rw [decide_eq_false h2, h1]
        exact ev_neg (by decide) (ev_pos rfl (ev_some (rBytes_eq _ _ _) (Ev.now _)))
  · refine ⟨[], POctetReads.leftOf s c n, codeOf s c n, ?_, hm _ ?_, hb1, by omega, by simp⟩
    · unfold octet_Reader_Text.f
      refine ev_bind hN (ev_neg h1 (ev_succ ?_))
      simp only [octet_Reader_Text.j0]
      exact ev_neg (by decide) (ev_neg h1 (Ev.now _))
    · refine ev_succ ?_
      simp only [deedboxref01_Text.j0]
      refine ev_neg h1 (ev_succ ?_)
      simp only [deedboxref01_Text.j1]
      exact ev_neg (by decide) (ev_neg h1 (Ev.now _))
theorem reads_l0 (l1 : List S73) (hl1 : l1.length ≤ 40) : ∀ (d i : Nat) (s : List Int) (c : Int), i + d = l1.length → IsB s → s.length ≤ 3000 → Ev (fun k => deedboxlaw01_OctetReads.l0 k l1 (i : Int) s c s c) true := by
  intro d
  induction d with
  | zero =>
    intro i s c hi hb hs
    refine ev_succ ?_
    simp only [deedboxlaw01_OctetReads.l0]
    refine ev_neg (by omega) ?_
    have he : octet_Reader_End.f s c = some (if (s.length : Int) > 0 then (if c = 0 then 4 else c) else c, s, if (s.length : Int) > 0 then (if c = 0 then 4 else c) else c) := by
      unfold octet_Reader_End.f
      split
      · rw [fail_eq]; rfl
      · rfl
    have hr : deedboxref01_End.f s c = some (if (s.length : Int) > 0 then (if c = 0 then 4 else c) else c) := by
      unfold deedboxref01_End.f
      by_cases h1 : c = 0
      · rw [if_pos h1, if_pos h1]
        split <;> rfl
      · rw [if_neg h1, if_neg h1]
        split <;> rfl
    exact ev_some he (ev_some hr (ev_pos rfl (ev_bind works_ok (Ev.now _))))
  | succ d ih =>
    intro i s c hi hb hs
    have e2 : wrap64 ((i : Int) + 1) = ((i + 1 : Nat) : Int) := by rw [wr (by omega) (by omega)]; rfl
    have step : ∀ (s' : List Int) (c' : Int), IsB s' → s'.length ≤ 3000 → Ev (fun k => deedboxlaw01_OctetReads.j2 k l1 (i : Int) s' c' s' c') true := by
      intro s' c' hb' hs'
      refine ev_succ ?_
      simp only [deedboxlaw01_OctetReads.j2, e2]
      exact ev_some rfl (ev_pos rfl (ev_some rfl (ev_pos rfl (ih (i + 1) s' c' (by omega) hb' hs'))))
    refine ev_succ ?_
    simp only [deedboxlaw01_OctetReads.l0]
    refine ev_pos (by omega) (ev_pos (by omega) ?_)
    generalize rd_T73 l1 (i : Int) = o
    have hb1 := left_isB hb c o.f1
    have hl2 := left_len s c o.f1
    by_cases k0 : o.f0 = 0
    · exact ev_pos k0 (ev_bind (rNumber_ev s c o.f1 hb hs) (ev_bind (oNumber_ev s c o.f1 hb hs) (ev_pos rfl (step _ _ hb1 (by show (POctetReads.leftOf s c o.f1).length ≤ 3000; omega)))))
    · refine ev_neg k0 ?_
      by_cases k1 : o.f0 = 1
      · have ht := taken_len s c o.f1
        exact ev_pos k1 (ev_some (rBytes_eq s c o.f1) (ev_bind (oBytes_ev s c o.f1 hs) (ev_bind (Same_self _ _ (by show (taken s c o.f1).length ≤ _; omega) rfl) (ev_pos rfl (step _ _ hb1 (by show (POctetReads.leftOf s c o.f1).length ≤ 3000; omega))))))
      · refine ev_neg k1 ?_
        by_cases k2 : o.f0 = 2
        · obtain ⟨t, s', c', h1, h2, h3, h4, h5⟩ := Text_both s c o.f1 o.f2 hb hs
          exact ev_pos k2 (ev_bind h2 (ev_bind h1 (ev_bind (Same_self _ _ (by show t.length ≤ _; omega) rfl) (ev_pos rfl (step _ _ h3 h4)))))
        · refine ev_neg k2 ?_
          by_cases k3 : o.f0 = 3
          · refine ev_pos k3 ?_
            by_cases k4 : Int.tmod o.f1 5 = 0
            · refine ev_pos k4 ?_
              by_cases k5 : c = 0
              · refine ev_pos k5 (ev_some (fail_eq _ _ _) ?_)
                rw [if_pos k5]
                exact step _ _ hb hs
              · refine ev_neg k5 (ev_some (fail_eq _ _ _) ?_)
                rw [if_neg k5]
                exact step _ _ hb hs
            · exact ev_neg k4 (step _ _ hb hs)
          · exact ev_neg k3 (step _ _ hb hs)
/-- THE ONE PURE STATEMENT of deedboxlaw01_OctetReads. -/
def _root_.Go.Proofs.Ytagoofdopgopoaa.POctetReads.deedboxlaw01_OctetReads.Pure : Prop := ∀ (l0 : List Int) (l1 : List S73), l0.length ≤ maxLen → (∀ x ∈ l0, (Lit.int .u8 x).wf = true) → l1.length ≤ maxLen → ∃ k, deedboxlaw01_OctetReads.f k l0 l1 = some true
/-- OctetReads: whatever a reader of any bytes is asked. -/
theorem OctetReads : deedboxlaw01_OctetReads.Pure := by
  intro l0 l1 m0 w0 m1
  refine Ev.rounds (g := fun k => deedboxlaw01_OctetReads.f k l0 l1) ?_
  unfold deedboxlaw01_OctetReads.f
  have wk : Ev (fun k => deedboxlaw01_OctetReads.j0 k l0 l1 true) true := by
    refine ev_succ ?_
    simp only [deedboxlaw01_OctetReads.j0]
    exact ev_pos trivial (ev_bind works_ok (Ev.now _))
  by_cases h0 : (l0.length : Int) > 3000
  · exact ev_pos h0 wk
  · refine ev_neg h0 ?_
    by_cases h1 : (l1.length : Int) > 40
    · rw [decide_eq_true h1]
      exact wk
    · rw [decide_eq_false h1]
      refine ev_succ ?_
      simp only [deedboxlaw01_OctetReads.j0]
      have hR : Ev (fun k => octet_Read.f k l0) (l0, 0) := by
        unfold octet_Read.f
        exact ev_bind (Join_ev [l0] (by simp [lens]; omega) (by simp)) (ev_to (Ev.now _) (by simp))
      exact ev_neg (by decide) (ev_bind hR (reads_l0 l1 (by omega) l1.length 0 l0 0 (by omega) (isB_wf w0) (by omega)))
end Go.Proofs.Ytagoofdopgopoaa.Pure
