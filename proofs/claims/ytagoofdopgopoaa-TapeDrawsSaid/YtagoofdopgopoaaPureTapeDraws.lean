/- TapeDraws: which keys are drawn of any tape, one by one, and whether no two are the same. -/
import Derived.Test.YtagoofdopgopoaaPTapeDrawsx5
import Derived.Laws.BitsLemmas
import Derived.Laws.Strings
import Derived.Lib.SmallJoins
namespace Go.Proofs.Ytagoofdopgopoaa.Pure
open Go.RowKit Go.Proofs.Ytagoofdopgopoaa.PTapeDraws Go.Proofs.YtagoofdopgopoaaW.PrintWords Go.Proofs.YtagoofdopgopoaaW.PrintLast Go.Proofs.YtagoofdopgopoaaW.PrintMore
set_option linter.unusedVariables false
set_option linter.unusedSimpArgs false
/-! #### bytes and numbers -/
def IsB (l : List Int) : Prop := ∀ x ∈ l, 0 ≤ x ∧ x < 256
theorem isB_wf {l : List Int} (h : ∀ x ∈ l, (Lit.int .u8 x).wf = true) : IsB l := fun x hx => by
  have := h x hx
  simp [Lit.wf, IntKind.min, IntKind.max, IntKind.bits, IntKind.signed] at this
  omega
theorem wf_u16 {x : Int} (h : (Lit.int .u16 x).wf = true) : 0 ≤ x ∧ x < 65536 := by
  simp [Lit.wf, IntKind.min, IntKind.max, IntKind.bits, IntKind.signed] at h
  omega
theorem wf_u32 {x : Int} (h : (Lit.int .u32 x).wf = true) : 0 ≤ x ∧ x < 4294967296 := by
  simp [Lit.wf, IntKind.min, IntKind.max, IntKind.bits, IntKind.signed] at h
  omega
theorem wf_u64 {x : Int} (h : (Lit.int .u64 x).wf = true) : 0 ≤ x ∧ x < 18446744073709551616 := by
  simp [Lit.wf, IntKind.min, IntKind.max, IntKind.bits, IntKind.signed] at h
  omega
theorem wf_u8 {x : Int} (h : (Lit.int .u8 x).wf = true) : 0 ≤ x ∧ x < 256 := by
  simp [Lit.wf, IntKind.min, IntKind.max, IntKind.bits, IntKind.signed] at h
  omega
theorem wf_i64 {x : Int} (h : (Lit.int .i64 x).wf = true) : -9223372036854775808 ≤ x ∧ x < 9223372036854775808 := by
  simp [Lit.wf, IntKind.min, IntKind.max, IntKind.bits, IntKind.signed] at h
  omega
theorem wr {x : Int} (h0 : -9223372036854775808 ≤ x) (h1 : x < 9223372036854775808) : wrap64 x = x := by
  unfold wrap64
  omega
theorem wu {x : Int} (h0 : 0 ≤ x) (h1 : x < 18446744073709551616) : IntKind.u64.wrap x = x := by
  simp [IntKind.wrap, IntKind.bits, IntKind.signed]
  omega
theorem wu_mod (x : Int) : IntKind.u64.wrap x = x % 18446744073709551616 := by
  simp [IntKind.wrap, IntKind.bits, IntKind.signed]
theorem isB_nil : IsB [] := fun x hx => by cases hx
theorem isB_append {a b : List Int} (ha : IsB a) (hb : IsB b) : IsB (a ++ b) := fun x hx => by
  rcases List.mem_append.1 hx with h | h
  · exact ha x h
  · exact hb x h
theorem isB_cons {x : Int} {l : List Int} (h0 : 0 ≤ x) (h1 : x < 256) (hl : IsB l) : IsB (x :: l) := fun y hy => by
  rcases List.mem_cons.1 hy with rfl | h
  · exact ⟨h0, h1⟩
  · exact hl y h
theorem isB_tail {x : Int} {l : List Int} (h : IsB (x :: l)) : IsB l := fun y hy => h y (List.mem_cons_of_mem _ hy)
theorem isB_head {x : Int} {l : List Int} (h : IsB (x :: l)) : 0 ≤ x ∧ x < 256 := h x List.mem_cons_self
theorem isB_left {a b : List Int} (h : IsB (a ++ b)) : IsB a := fun x hx => h x (List.mem_append_left _ hx)
theorem isB_right {a b : List Int} (h : IsB (a ++ b)) : IsB b := fun x hx => h x (List.mem_append_right _ hx)
theorem rd_at (l : List Int) (i : Nat) (h : i < l.length) : rd l (i : Int) = l[i] := by
  unfold rd
  rw [Int.toNat_natCast, List.getD_eq_getElem?_getD, List.getElem?_eq_getElem h, Option.getD_some]
theorem drop_at {α : Type} (l : List α) (i : Nat) (h : i < l.length) : l.drop i = l[i] :: l.drop (i + 1) := List.drop_eq_getElem_cons h
/-- The number n in m bytes, the highest first. -/
def put : Nat → Int → List Int
  | 0, _ => []
  | m + 1, n => put m (n / 256) ++ [n % 256]
theorem put_length (m : Nat) : ∀ n, (put m n).length = m := by
  induction m with
  | zero => intro n; rfl
  | succ m ih => intro n; rw [put, List.length_append, ih]; rfl
theorem put_isB (m : Nat) : ∀ n, IsB (put m n) := by
  induction m with
  | zero => intro n; exact isB_nil
  | succ m ih => intro n; exact isB_append (ih _) (isB_cons (by omega) (by omega) isB_nil)
theorem put_cons (m : Nat) : ∀ n : Int, 0 ≤ n → put (m + 1) n = (n / 256 ^ m % 256) :: put m n := by
  induction m with
  | zero => intro n _; simp [put]
  | succ m ih =>
    intro n hn
    rw [put, ih (n / 256) (by omega), List.cons_append]
    rw [show put (m + 1) n = put m (n / 256) ++ [n % 256] from rfl]
    congr 1
    rw [Int.ediv_ediv_of_nonneg (by omega), Int.pow_succ, Int.mul_comm]
/-- The number of bytes, the highest first, as 64 bits hold it. -/
def get (l : List Int) : Int := l.foldl (fun n c => (n * 256 + c) % 18446744073709551616) 0
def getz (l : List Int) : Int := l.foldl (fun n c => n * 256 + c) 0
theorem getz_append (l : List Int) (c : Int) : getz (l ++ [c]) = getz l * 256 + c := by simp [getz, List.foldl_append]
theorem get_append (l : List Int) (c : Int) : get (l ++ [c]) = (get l * 256 + c) % 18446744073709551616 := by simp [get, List.foldl_append]
theorem get_range (l : List Int) : 0 ≤ get l ∧ get l < 18446744073709551616 := by
  rcases List.eq_nil_or_concat l with rfl | ⟨a, c, rfl⟩
  · simp [get]
  · rw [List.concat_eq_append, get_append]
    omega
theorem getz_put (m : Nat) : ∀ n : Int, 0 ≤ n → n < 256 ^ m → getz (put m n) = n := by
  induction m with
  | zero => intro n h0 h1; simp at h1; simp [put, getz]; omega
  | succ m ih =>
    intro n h0 h1
    rw [put, getz_append, ih (n / 256) (by omega) (by rw [Int.pow_succ] at h1; exact Int.ediv_lt_of_lt_mul (by decide) h1)]
    omega
theorem rev_ind {α : Type} {P : List α → Prop} (h0 : P []) (h1 : ∀ l c, P l → P (l ++ [c])) (l : List α) : P l := by
  have h : ∀ m : List α, P m.reverse := by
    intro m
    induction m with
    | nil => exact h0
    | cons c m ih => rw [List.reverse_cons]; exact h1 _ _ ih
  have := h l.reverse
  rwa [List.reverse_reverse] at this
theorem getz_nonneg (l : List Int) : IsB l → 0 ≤ getz l := by
  refine rev_ind (P := fun l => IsB l → 0 ≤ getz l) (fun _ => by simp [getz]) (fun l c ih h => ?_) l
  rw [getz_append]
  have := ih (isB_left h)
  have := isB_head (isB_right h)
  omega
theorem get_getz (l : List Int) : get l = getz l % 18446744073709551616 := by
  refine rev_ind (P := fun l => get l = getz l % 18446744073709551616) (by simp [get, getz]) (fun l c ih => ?_) l
  rw [get_append, getz_append, ih]
  omega
theorem get_put (m : Nat) (n : Int) (h0 : 0 ≤ n) (h1 : n < 256 ^ m) (h2 : n < 18446744073709551616) : get (put m n) = n := by
  rw [get_getz, getz_put m n h0 h1]
  omega
theorem ev_pos {α : Type} {c : Prop} [Decidable c] {f g : Nat → Option α} {r : α} (h : c) (k : Ev f r) : Ev (fun n => if c then f n else g n) r := by
  obtain ⟨K, k⟩ := k
  exact ⟨K, fun n hn => by simp only [if_pos h]; exact k n hn⟩
theorem ev_neg {α : Type} {c : Prop} [Decidable c] {f g : Nat → Option α} {r : α} (h : ¬ c) (k : Ev g r) : Ev (fun n => if c then f n else g n) r := by
  obtain ⟨K, k⟩ := k
  exact ⟨K, fun n hn => by simp only [if_neg h]; exact k n hn⟩
theorem ev_bind {α β : Type} {g : Nat → Option α} {f : Nat → α → Option β} {a : α} {r : β} (h : Ev g a) (k : Ev (fun n => f n a) r) : Ev (fun n => (g n).bind (f n)) r := Ev.bind h k
theorem ev_some {α β : Type} {x : Option α} {f : Nat → α → Option β} {a : α} {r : β} (h : x = some a) (k : Ev (fun n => f n a) r) : Ev (fun n => x.bind (f n)) r := by
  subst h
  exact k
theorem ev_to {α : Type} {g : Nat → Option α} {r r' : α} (h : Ev g r) (e : r = r') : Ev g r' := by
  subst e
  exact h
theorem ev_at {α : Type} {g : Nat → Option α} {r : α} (K : Nat) (h : ∀ k, K ≤ k → g k = some r) : Ev g r := ⟨K, h⟩
/-- One round of a loop: the rounds are counted down first. -/
theorem ev_succ {α : Type} {g : Nat → Option α} {r : α} (k : Ev (fun n => g (n + 1)) r) : Ev g r := Ev.step (fun _ => rfl) k
theorem take_split' {α : Type} (l : List α) (n : Nat) (h : n < l.length) : l.take (n + 1) = l.take n ++ [l[n]] := List.take_succ_eq_append_getElem h
/-! #### strings and bytes -/
theorem str_bytes (s : ByteArray) : strOfNums (bytesOf s) = s := by
  have h : (strOfNums (bytesOf s)).data.toList = s.data.toList := by
    rw [strOfNums_data, bytesOf, List.map_map]
    refine (List.map_congr_left fun b _ => ?_).trans (List.map_id _)
    simp
  rcases s with ⟨a⟩
  have h2 := congrArg List.toArray h
  simp only [Array.toArray_toList] at h2
  exact congrArg ByteArray.mk h2
theorem bytesOf_inj {a b : ByteArray} (h : bytesOf a = bytesOf b) : a = b := by rw [← str_bytes a, h, str_bytes b]
theorem toList_map (s : ByteArray) : s.toList.map (fun b => (b.toNat : Int)) = bytesOf s := by rw [ByteArray.toList_eq]; rfl
theorem toList_inj {a b : ByteArray} (h : a.toList = b.toList) : a = b := bytesOf_inj (by rw [← toList_map, ← toList_map, h])
theorem nums_str {l : List Int} (h : IsB l) : bytesOf (strOfNums l) = l := by
  unfold bytesOf
  rw [strOfNums_data, List.map_map]
  refine (List.map_congr_left fun x hx => ?_).trans (List.map_id _)
  have := h x hx
  simp
  omega
theorem str_toList (l : List Int) (s : ByteArray) (h : l = bytesOf s) : (strOfNums l).toList = s.toList := by rw [h, str_bytes]
/-- Byte by byte less. -/
def less : List Int → List Int → Bool
  | _, [] => false
  | [], _ :: _ => true
  | a :: x, b :: y => decide (a < b) || (a == b && less x y)
theorem less_self (x : List Int) : less x x = false := by
  induction x with
  | nil => rfl
  | cons a x ih => simp [less, ih]
theorem less_pre (p x y : List Int) : less (p ++ x) (p ++ y) = less x y := by
  induction p with
  | nil => rfl
  | cons a p ih => simp [less, ih]
theorem bytesLess_less (x y : List UInt8) : Op.bytesLess x y = less (x.map fun b => (b.toNat : Int)) (y.map fun b => (b.toNat : Int)) := by
  induction x generalizing y with
  | nil => cases y <;> simp [Op.bytesLess, less]
  | cons a x ih =>
    cases y with
    | nil => simp [Op.bytesLess, less]
    | cons b y =>
      simp only [Op.bytesLess, less, List.map_cons, ih]
      congr 1
      · rw [Bool.eq_iff_iff]
        simp [UInt8.lt_iff_toNat_lt]
      · congr 1
        rw [Bool.eq_iff_iff]
        simp [← UInt8.toNat_inj]
        omega
theorem strLess (a b : ByteArray) : Op.bytesLess a.toList b.toList = less (bytesOf a) (bytesOf b) := by rw [bytesLess_less, toList_map, toList_map]
theorem less_put (m : Nat) : ∀ x y : Int, 0 ≤ x → 0 ≤ y → x < 256 ^ m → y < 256 ^ m → less (put m x) (put m y) = decide (x < y) := by
  have snoc : ∀ (a b : List Int) (c d : Int), a.length = b.length → less (a ++ [c]) (b ++ [d]) = (less a b || (a == b && decide (c < d))) := by
    intro a
    induction a with
    | nil => intro b c d h; cases b with | nil => simp [less] | cons => cases h
    | cons u a ih =>
      intro b c d h
      cases b with
      | nil => cases h
      | cons v b =>
        simp only [List.cons_append, less]
        rw [ih b c d (by simpa using h)]
        by_cases e : u = v
        · subst e; simp
        · have hq : (u == v) = false := beq_eq_false_iff_ne.2 e
          simp [hq]
  have inj : ∀ (m : Nat) (x y : Int), 0 ≤ x → 0 ≤ y → x < 256 ^ m → y < 256 ^ m → put m x = put m y → x = y := by
    intro m x y h0 h1 h2 h3 h
    rw [← getz_put m x h0 h2, h, getz_put m y h1 h3]
  induction m with
  | zero => intro x y h0 h1 h2 h3; simp at h2 h3; simp [put, less]; omega
  | succ m ih =>
    intro x y h0 h1 h2 h3
    rw [Int.pow_succ] at h2 h3
    have a1 := Int.ediv_lt_of_lt_mul (by decide) h2
    have a2 := Int.ediv_lt_of_lt_mul (by decide) h3
    rw [put, put, snoc _ _ _ _ (by rw [put_length, put_length]), ih _ _ (by omega) (by omega) a1 a2]
    rw [Bool.eq_iff_iff]
    simp only [Bool.or_eq_true, decide_eq_true_eq, Bool.and_eq_true, beq_iff_eq]
    constructor
    · rintro (h | ⟨h, h'⟩)
      · omega
      · have := inj m _ _ (by omega) (by omega) a1 a2 h
        omega
    · intro h
      by_cases e : x / 256 = y / 256
      · right
        rw [e]
        exact ⟨rfl, by omega⟩
      · left
        omega
theorem less_zero (a b p q : List Int) (ha : ∀ x ∈ a, 0 < x) (hb : ∀ x ∈ b, 0 < x) (h : a ≠ b) : less (a ++ 0 :: p) (b ++ 0 :: q) = less a b := by
  induction a generalizing b with
  | nil =>
    cases b with
    | nil => exact absurd rfl h
    | cons v b =>
      have := hb v List.mem_cons_self
      simp [less, this]
  | cons u a ih =>
    cases b with
    | nil =>
      have := ha u List.mem_cons_self
      simp [less]
      omega
    | cons v b =>
      simp only [List.cons_append, less]
      by_cases e : u = v
      · subst e
        rw [ih b (fun x hx => ha x (List.mem_cons_of_mem _ hx)) (fun x hx => hb x (List.mem_cons_of_mem _ hx)) (fun e => h (by rw [e]))]
      · rw [show (u == v) = false from beq_eq_false_iff_ne.2 e, Bool.false_and, Bool.false_and]
theorem bytesOf_data_inj {a b : ByteArray} (h : a.data.toList = b.data.toList) : a = b := bytesOf_inj (by unfold bytesOf; rw [h])
/-! #### deedboxref01_Same -/
theorem Same_l0 (a b : List Int) (hl : a.length = b.length) (hm : a.length ≤ 9223372036854775807) : ∀ (d k i : Nat), i + d = a.length → d < k → deedboxref01_Same.l0 k a b (i : Int) = some (decide (a.drop i = b.drop i)) := by
  intro d
  induction d with
  | zero =>
    intro k i hi hk
    obtain ⟨k, rfl⟩ : ∃ m, k = m + 1 := ⟨k - 1, by omega⟩
    simp only [deedboxref01_Same.l0]
    rw [if_neg (by omega), List.drop_of_length_le (by omega), List.drop_of_length_le (by omega)]
    simp
  | succ d ih =>
    intro k i hi hk
    obtain ⟨k, rfl⟩ : ∃ m, k = m + 1 := ⟨k - 1, by omega⟩
    simp only [deedboxref01_Same.l0]
    rw [if_pos (by omega), if_pos (by omega), if_pos (by omega), rd_at a i (by omega), rd_at b i (by omega), wr (by omega) (by omega), drop_at a i (by omega), drop_at b i (by omega)]
    have h := ih k (i + 1) (by omega) (by omega)
    rw [Int.natCast_add] at h
    by_cases e : a[i] = b[i]
    · rw [if_pos e, e]
      refine h.trans (congrArg some (decide_eq_decide.2 ?_))
      rw [List.cons.injEq]
      exact ⟨fun h => ⟨rfl, h⟩, fun h => h.2⟩
    · rw [if_neg e, decide_eq_false]
      rw [List.cons.injEq]
      exact fun h => e h.1
theorem Same_ev (a b : List Int) (hm : a.length ≤ 9223372036854775807) : Ev (fun k => deedboxref01_Same.f k a b) (decide (a = b)) := by
  unfold deedboxref01_Same.f
  by_cases hl : a.length = b.length
  · refine ev_pos (by omega) ⟨a.length + 1, fun k hk => ?_⟩
    have := Same_l0 a b hl hm a.length k 0 (by omega) (by omega)
    simpa using this
  · refine ev_neg (by omega) ⟨0, fun k _ => ?_⟩
    rw [decide_eq_false]
    rintro rfl
    exact hl rfl
theorem Same_self (a b : List Int) (hm : a.length ≤ 9223372036854775807) (h : a = b) : Ev (fun k => deedboxref01_Same.f k a b) true := ev_to (Same_ev a b hm) (by rw [decide_eq_true h])
/-! #### octet_Join -/
def lens (l : List (List Int)) : Nat := (l.map List.length).sum
theorem lens_append (a b : List (List Int)) : lens (a ++ b) = lens a + lens b := by simp [lens]
theorem lens_cons (x : List Int) (b : List (List Int)) : lens (x :: b) = x.length + lens b := by simp [lens]
theorem lens_flatten (a : List (List Int)) : a.flatten.length = lens a := by simp [lens, List.length_flatten]
theorem rdL_at (l : List (List Int)) (i : Nat) (h : i < l.length) : rd_L1 l (i : Int) = l[i] := by
  unfold rd_L1
  rw [Int.toNat_natCast, List.getD_eq_getElem?_getD, List.getElem?_eq_getElem h, Option.getD_some]
theorem take_at {α : Type} (l : List α) (i : Nat) (h : i < l.length) : l.take (i + 1) = l.take i ++ [l[i]] := by
  rw [List.take_succ_eq_append_getElem h]
theorem lens_take (l : List (List Int)) (i : Nat) : lens (l.take i) ≤ lens l := by
  have := lens_append (l.take i) (l.drop i)
  rw [List.take_append_drop] at this
  omega
theorem Join_l1 (l : List (List Int)) (hb : lens l < 140737488355328) (hl : l.length ≤ 9223372036854775807) : ∀ (d k i : Nat), i + d = l.length → d < k → octet_Join.l1 k (l.take i).flatten l (l.length : Int) (i : Int) = some l.flatten := by
  intro d
  induction d with
  | zero =>
    intro k i hi hk
    obtain ⟨k, rfl⟩ : ∃ m, k = m + 1 := ⟨k - 1, by omega⟩
    simp only [octet_Join.l1]
    rw [if_neg (by omega), List.take_of_length_le (by omega)]
  | succ d ih =>
    intro k i hi hk
    obtain ⟨k, rfl⟩ : ∃ m, k = m + 1 := ⟨k - 1, by omega⟩
    simp only [octet_Join.l1]
    have h1 := lens_take l (i + 1)
    rw [take_at l i (by omega), lens_append] at h1
    have h2 : lens [l[i]] = l[i].length := by simp [lens]
    rw [if_pos (by omega), if_pos (by omega), if_pos (by omega), rdL_at l i (by omega), if_pos (by rw [lens_flatten]; omega), wr (by omega) (by omega)]
    have h := ih k (i + 1) (by omega) (by omega)
    rw [take_at l i (by omega), List.flatten_append] at h
    simpa using h
theorem Join_l0 (l : List (List Int)) (hb : lens l < 140737488355328) (hl : l.length ≤ 9223372036854775807) : ∀ (d k i : Nat), i + d = l.length → d + l.length + 1 < k → octet_Join.l0 k l (lens (l.take i) : Int) l (l.length : Int) (i : Int) = some l.flatten := by
  intro d
  induction d with
  | zero =>
    intro k i hi hk
    obtain ⟨k, rfl⟩ : ∃ m, k = m + 1 := ⟨k - 1, by omega⟩
    simp only [octet_Join.l0]
    have h := Join_l1 l hb hl l.length k 0 (by omega) (by omega)
    have h1 := lens_take l i
    rw [if_neg (by omega), if_pos (by omega), if_pos (by omega)]
    simpa using h
  | succ d ih =>
    intro k i hi hk
    obtain ⟨k, rfl⟩ : ∃ m, k = m + 1 := ⟨k - 1, by omega⟩
    simp only [octet_Join.l0]
    have h1 := lens_take l (i + 1)
    have h := ih k (i + 1) (by omega) (by omega)
    rw [take_at l i (by omega), lens_append] at h1 h
    have h2 : lens [l[i]] = l[i].length := by simp [lens]
    rw [if_pos (by omega), if_pos (by omega), if_pos (by omega), rdL_at l i (by omega), wr (by omega) (by omega), wr (by omega) (by omega)]
    rw [h2] at h
    rw [Int.natCast_add, Int.natCast_add] at h
    exact h
theorem Join_ev (l : List (List Int)) (hb : lens l < 140737488355328) (hl : l.length ≤ 9223372036854775807) : Ev (fun k => octet_Join.f k l) l.flatten := by
  refine ⟨2 * l.length + 2, fun k hk => ?_⟩
  have := Join_l0 l hb hl l.length k 0 (by omega) (by omega)
  unfold octet_Join.f
  simpa [lens] using this
theorem works_ok : Ev (fun k => deedboxlaw11_works.f k) true := Ev.of (fun k => deedboxlaw11_works.mono k) (k := 80) (by decide +kernel)
/-! #### bytes, bit by bit -/
theorem xor_nat (a b : Nat) (ha : a < 256) (hb : b < 256) : Go.bits .xor .u8 (a : Int) (b : Int) = ((a ^^^ b : Nat) : Int) := by
  have h1 : a % 2 ^ IntKind.u8.bits = a := Nat.mod_eq_of_lt ha
  have h2 : b % 2 ^ IntKind.u8.bits = b := Nat.mod_eq_of_lt hb
  have h3 : a ^^^ b < 2 ^ 8 := Nat.xor_lt_two_pow ha hb
  simp only [bits, BitVec.ofInt_natCast, BitVec.toNat_xor, BitVec.toNat_ofNat, h1, h2]
  exact wraps_u8 _ (Int.natCast_nonneg _) (by exact_mod_cast h3)
theorem or_nat (a b : Nat) (ha : a < 256) (hb : b < 256) : Go.bits .or .u8 (a : Int) (b : Int) = ((a ||| b : Nat) : Int) := (bits_nat .u8 8 (by decide) wraps_u8 a b ha hb).2
theorem byte_nat {x : Int} (h : 0 ≤ x ∧ x < 256) : ∃ n : Nat, x = (n : Int) ∧ n < 256 := ⟨x.toNat, by omega, by omega⟩
def bx (a b : Int) : Int := Go.bits .xor .u8 a b
theorem bx_byte {a b : Int} (ha : 0 ≤ a ∧ a < 256) (hb : 0 ≤ b ∧ b < 256) : 0 ≤ bx a b ∧ bx a b < 256 := by
  obtain ⟨m, rfl, hm⟩ := byte_nat ha
  obtain ⟨n, rfl, hn⟩ := byte_nat hb
  have h3 : m ^^^ n < 2 ^ 8 := Nat.xor_lt_two_pow hm hn
  rw [bx, xor_nat m n hm hn]
  omega
theorem bx_zero {a b : Int} (ha : 0 ≤ a ∧ a < 256) (hb : 0 ≤ b ∧ b < 256) : bx a b = 0 ↔ a = b := by
  obtain ⟨m, rfl, hm⟩ := byte_nat ha
  obtain ⟨n, rfl, hn⟩ := byte_nat hb
  rw [bx, xor_nat m n hm hn]
  constructor
  · intro h
    have h2 : m ^^^ n = 0 := by omega
    have h3 : m = n := by
      have := congrArg (· ^^^ n) h2
      simp only [Nat.xor_assoc, Nat.xor_self, Nat.xor_zero, Nat.zero_xor] at this
      exact this
    rw [h3]
  · intro h
    have h2 : m = n := by omega
    rw [h2, Nat.xor_self]
    rfl
theorem bx_bx {a b : Int} (ha : 0 ≤ a ∧ a < 256) (hb : 0 ≤ b ∧ b < 256) : bx (bx a b) b = a := by
  obtain ⟨m, rfl, hm⟩ := byte_nat ha
  obtain ⟨n, rfl, hn⟩ := byte_nat hb
  have h3 : m ^^^ n < 2 ^ 8 := Nat.xor_lt_two_pow hm hn
  rw [bx, bx, xor_nat m n hm hn, xor_nat _ n h3 hn, Nat.xor_assoc, Nat.xor_self, Nat.xor_zero]
theorem bor_zero {a b : Int} (ha : 0 ≤ a ∧ a < 256) (hb : 0 ≤ b ∧ b < 256) : (0 ≤ Go.bits .or .u8 a b ∧ Go.bits .or .u8 a b < 256) ∧ (Go.bits .or .u8 a b = 0 ↔ a = 0 ∧ b = 0) := by
  obtain ⟨m, rfl, hm⟩ := byte_nat ha
  obtain ⟨n, rfl, hn⟩ := byte_nat hb
  have h3 : m ||| n < 2 ^ 8 := Nat.or_lt_two_pow hm hn
  rw [or_nat m n hm hn]
  refine ⟨by omega, ?_⟩
  have h4 : m ≤ m ||| n := Nat.left_le_or
  have h5 : n ≤ m ||| n := Nat.right_le_or
  constructor
  · intro h
    omega
  · rintro ⟨h1, h2⟩
    obtain rfl : m = 0 := by omega
    obtain rfl : n = 0 := by omega
    rfl
/-! #### octet_Same -/
theorem oSame_l0 (a b : List Int) (hab : a.length = b.length) (ha : IsB a) (hb : IsB b) (hm : a.length ≤ 1000000000) : ∀ (d k i : Nat) (x : Int), i + d = a.length → d < k → 0 ≤ x ∧ x < 256 → (x = 0 ↔ a.take i = b.take i) → octet_Same.l0 k a b x (a.length : Int) (i : Int) = some (decide (a = b)) := by
  intro d
  induction d with
  | zero =>
    intro k i x hi hk hx he
    obtain ⟨k, rfl⟩ : ∃ m, k = m + 1 := ⟨k - 1, by omega⟩
    simp only [octet_Same.l0]
    rw [List.take_of_length_le (by omega), List.take_of_length_le (by omega)] at he
    rw [if_neg (by omega)]
    congr 1
    rw [Bool.eq_iff_iff, beq_iff_eq, decide_eq_true_iff]
    exact he
  | succ d ih =>
    intro k i x hi hk hx he
    obtain ⟨k, rfl⟩ : ∃ m, k = m + 1 := ⟨k - 1, by omega⟩
    simp only [octet_Same.l0]
    have h1 := ha a[i] (List.getElem_mem (by omega))
    have h2 := hb b[i] (List.getElem_mem (by omega))
    have hz := bor_zero hx (bx_byte h1 h2)
    rw [if_pos (by omega), if_pos (by omega), if_pos (by omega), if_pos (by omega), rd_at a i (by omega), rd_at b i (by omega), wr (by omega) (by omega)]
    have h := ih k (i + 1) (Go.bits .or .u8 x (bx a[i] b[i])) (by omega) (by omega) hz.1 (by
      rw [hz.2, bx_zero h1 h2, he, take_split' a i (by omega), take_split' b i (by omega)]
      constructor
      · rintro ⟨e1, e2⟩
        rw [e1, e2]
      · intro e
        have := List.append_inj e (by rw [List.length_take, List.length_take]; omega)
        exact ⟨this.1, by simpa using this.2⟩)
    rw [Int.natCast_add] at h
    exact h
theorem oSame_ev (a b : List Int) (ha : IsB a) (hb : IsB b) (hm : a.length ≤ 1000000000) : Ev (fun k => octet_Same.f k a b) (decide (a = b)) := by
  unfold octet_Same.f
  by_cases hl : a.length = b.length
  · refine ev_pos (by omega) ⟨a.length + 1, fun k hk => ?_⟩
    have := oSame_l0 a b hl ha hb hm a.length k 0 0 (by omega) (by omega) (by omega) (by simp)
    simpa using this
  · refine ev_neg (by omega) ⟨0, fun k _ => ?_⟩
    rw [decide_eq_false]
    rintro rfl
    exact hl rfl
/-! #### deedboxlaw01_Short -/
theorem lens_one (x : List Int) : lens [x] = x.length := by simp [lens]
theorem Short_l0 (l : List (List Int)) (hl : l.length ≤ 40) : ∀ (d i : Nat), i + d = l.length → lens (l.take i) ≤ 6000 → Ev (fun k => deedboxlaw01_Short.l0 k l (lens (l.take i) : Int) (i : Int)) 1 ∨ (Ev (fun k => deedboxlaw01_Short.l0 k l (lens (l.take i) : Int) (i : Int)) 0 ∧ lens l ≤ 6000) := by
  intro d
  induction d with
  | zero =>
    intro i hi hs
    rw [List.take_of_length_le (by omega)] at hs
    refine Or.inr ⟨ev_succ ?_, hs⟩
    simp only [deedboxlaw01_Short.l0]
    exact ev_neg (by omega) (Ev.now _)
  | succ d ih =>
    intro i hi hs
    have hr := rdL_at l i (by omega)
    by_cases h1 : (l[i].length : Int) > 3000
    · refine Or.inl (ev_succ ?_)
      simp only [deedboxlaw01_Short.l0, hr]
      exact ev_pos (by omega) (ev_pos (by omega) (ev_pos h1 (Ev.now _)))
    · have e : wrap64 ((lens (l.take i) : Int) + (l[i].length : Int)) = (lens (l.take (i + 1)) : Int) := by
        rw [wr (by omega) (by omega), take_at l i (by omega), lens_append, lens_one, Int.natCast_add]
      have e2 : wrap64 ((i : Int) + 1) = ((i + 1 : Nat) : Int) := by rw [wr (by omega) (by omega)]; rfl
      by_cases h2 : (lens (l.take (i + 1)) : Int) > 6000
      · refine Or.inl (ev_succ ?_)
        simp only [deedboxlaw01_Short.l0, hr, e]
        exact ev_pos (by omega) (ev_pos (by omega) (ev_neg h1 (ev_pos h2 (Ev.now _))))
      · rcases ih (i + 1) (by omega) (by omega) with h | ⟨h, h3⟩
        · refine Or.inl (ev_succ ?_)
          simp only [deedboxlaw01_Short.l0, hr, e, e2]
          exact ev_pos (by omega) (ev_pos (by omega) (ev_neg h1 (ev_neg h2 h)))
        · refine Or.inr ⟨ev_succ ?_, h3⟩
          simp only [deedboxlaw01_Short.l0, hr, e, e2]
          exact ev_pos (by omega) (ev_pos (by omega) (ev_neg h1 (ev_neg h2 h)))
theorem Short_ev (l : List (List Int)) : Ev (fun k => deedboxlaw01_Short.f k l) 1 ∨ (Ev (fun k => deedboxlaw01_Short.f k l) 0 ∧ l.length ≤ 40 ∧ lens l ≤ 6000) := by
  unfold deedboxlaw01_Short.f
  by_cases h : (l.length : Int) > 40
  · exact Or.inl (ev_pos h (Ev.now _))
  · rcases Short_l0 l (by omega) l.length 0 (by omega) (by simp [lens]) with h1 | ⟨h1, h2⟩
    · exact Or.inl (ev_neg h h1)
    · exact Or.inr ⟨ev_neg h h1, by omega, h2⟩
/-! #### tape_New, deedboxref11_New -/
theorem pad32_eq (b : List Int) : pad32 b = b.take (min b.length 32) ++ List.replicate (32 - min b.length 32) 0 := by
  unfold pad32
  rw [List.length_replicate, List.drop_replicate]
theorem pad32_length (b : List Int) : (pad32 b).length = 32 := by
  rw [pad32_eq, List.length_append, List.length_take, List.length_replicate]
  omega
theorem isB_take {l : List Int} (h : IsB l) (n : Nat) : IsB (l.take n) := fun x hx => h x (List.mem_of_mem_take hx)
theorem isB_zeros (n : Nat) : IsB (List.replicate n 0) := fun x hx => by
  have := (List.mem_replicate.1 hx).2
  omega
theorem pad32_isB {b : List Int} (h : IsB b) : IsB (pad32 b) := by
  rw [pad32_eq]
  exact isB_append (isB_take h _) (isB_zeros _)
theorem tNew_ev (l : List (List Int)) (hl : l.length ≤ 1000) : Ev (fun k => tape_New.f k l) (l.map pad32, 0) := by
  unfold tape_New.f
  exact ev_pos (by omega) (Ev.now _)
theorem rNew_l1 (l : List (List Int)) (acc : List (List Int)) (i : Nat) (hi : i < l.length) (hl : l.length ≤ 1000) (ha : acc.length ≤ 1000) (hb : l[i].length ≤ 9223372036854775807) (r : List (List Int) × Int) (h : Ev (fun k => deedboxref11_New.l0 k l ((i + 1 : Nat) : Int) (acc ++ [pad32 l[i]]) 0) r) : ∀ (d j : Nat), j + d = min l[i].length 32 → Ev (fun k => deedboxref11_New.l1 k l (i : Int) (l[i].take j ++ List.replicate (32 - j) 0) (j : Int) acc 0) r := by
  have hr := rdL_at l i hi
  have e2 : wrap64 ((i : Int) + 1) = ((i + 1 : Nat) : Int) := by rw [wr (by omega) (by omega)]; rfl
  intro d
  induction d with
  | zero =>
    intro j hj
    have hp : l[i].take j ++ List.replicate (32 - j) 0 = pad32 l[i] := by rw [pad32_eq, show min l[i].length 32 = j by omega]
    refine ev_succ ?_
    simp only [deedboxref11_New.l1, hr, hp, e2]
    by_cases c : (j : Int) < 32
    · exact ev_pos c (ev_pos (by omega) (ev_pos (by omega) (ev_neg (by omega) (ev_pos (by omega) h))))
    · exact ev_neg c (ev_pos (by omega) h)
  | succ d ih =>
    intro j hj
    have hq := ih (j + 1) (by omega)
    have hl1 : (l[i].take j).length = j := by rw [List.length_take]; omega
    refine ev_succ ?_
    simp only [deedboxref11_New.l1, hr]
    refine ev_pos (by omega) (ev_pos (by omega) (ev_pos (by omega) (ev_pos (by omega) (ev_pos (by omega) (ev_pos (by rw [List.length_append, hl1, List.length_replicate]; omega) ?_)))))
    rw [take_split' _ j (by omega), Int.natCast_add] at hq
    rw [rd_at _ j (by omega), wr (x := (j : Int) + 1) (by omega) (by omega), Int.toNat_natCast, List.set_append_right _ _ (by omega), hl1, Nat.sub_self, show 32 - j = (32 - (j + 1)) + 1 by omega, List.replicate_succ, List.set_cons_zero]
    rw [List.append_assoc, List.singleton_append] at hq
    exact hq
theorem rNew_l0 (l : List (List Int)) (hl : l.length ≤ 1000) (hb : ∀ x ∈ l, x.length ≤ 9223372036854775807) : ∀ (d i : Nat), i + d = l.length → Ev (fun k => deedboxref11_New.l0 k l (i : Int) ((l.take i).map pad32) 0) (l.map pad32, 0) := by
  intro d
  induction d with
  | zero =>
    intro i hi
    refine ev_succ ?_
    simp only [deedboxref11_New.l0]
    rw [List.take_of_length_le (by omega)]
    exact ev_neg (by omega) (Ev.now _)
  | succ d ih =>
    intro i hi
    have h := ih (i + 1) (by omega)
    rw [take_at l i (by omega), List.map_append, List.map_singleton] at h
    refine ev_succ ?_
    simp only [deedboxref11_New.l0]
    refine ev_pos (by omega) (ev_pos (by omega) ?_)
    have := rNew_l1 l ((l.take i).map pad32) i (by omega) hl (by rw [List.length_map, List.length_take]; omega) (hb _ (List.getElem_mem (by omega))) _ h (min l[i].length 32) 0 (by omega)
    simpa using this
theorem rNew_ev (l : List (List Int)) (hl : l.length ≤ 1000) (hb : ∀ x ∈ l, x.length ≤ 9223372036854775807) : Ev (fun k => deedboxref11_New.f k l) (l.map pad32, 0) := by
  unfold deedboxref11_New.f
  exact rNew_l0 l hl hb l.length 0 (by omega)
/-! #### tape_Tape_Apart, deedboxref11_Apart -/
def Unlike (x : List (List Int)) (a c : Nat) : Prop := rd_L1 x (a : Int) ≠ rd_L1 x (c : Int)
theorem rdL_props (x : List (List Int)) (hB : ∀ y ∈ x, IsB y) (hs : ∀ y ∈ x, y.length ≤ 1000) (i : Nat) (h : i < x.length) : IsB (rd_L1 x (i : Int)) ∧ (rd_L1 x (i : Int)).length ≤ 1000 := by
  rw [rdL_at x i h]
  exact ⟨hB _ (List.getElem_mem h), hs _ (List.getElem_mem h)⟩
theorem tApart_l1 (x : List (List Int)) (hl : x.length ≤ 1000) (hB : ∀ y ∈ x, IsB y) (hs : ∀ y ∈ x, y.length ≤ 1000) (i : Nat) (hi : i < x.length) (Q : Prop) (h : ∃ b, Ev (fun k => tape_Apart.l0 k x ((i + 1 : Nat) : Int)) b ∧ (b = true ↔ Q)) : ∀ (d j : Nat), j + d = i → ∃ b, Ev (fun k => tape_Apart.l1 k x (i : Int) (j : Int)) b ∧ (b = true ↔ (∀ c, j ≤ c → c < i → Unlike x i c) ∧ Q) := by
  have e2 : wrap64 ((i : Int) + 1) = ((i + 1 : Nat) : Int) := by rw [wr (by omega) (by omega)]; rfl
  intro d
  induction d with
  | zero =>
    intro j hj
    obtain ⟨b, h1, h2⟩ := h
    refine ⟨b, ev_succ ?_, ?_⟩
    · simp only [tape_Apart.l1, e2]
      exact ev_neg (by omega) h1
    · rw [h2]
      exact ⟨fun q => ⟨fun c hc1 hc2 => by omega, q⟩, fun q => q.2⟩
  | succ d ih =>
    intro j hj
    have e3 : wrap64 ((j : Int) + 1) = ((j + 1 : Nat) : Int) := by rw [wr (by omega) (by omega)]; rfl
    have p1 := rdL_props x hB hs i hi
    have p2 := rdL_props x hB hs j (by omega)
    have hS := oSame_ev (rd_L1 x (i : Int)) (rd_L1 x (j : Int)) p1.1 p2.1 (by omega)
    by_cases he : rd_L1 x (i : Int) = rd_L1 x (j : Int)
    · refine ⟨false, ev_succ ?_, ?_⟩
      · simp only [tape_Apart.l1]
        exact ev_pos (by omega) (ev_pos (by omega) (ev_pos (by omega) (ev_bind hS (ev_pos (decide_eq_true he) (Ev.now _)))))
      · exact ⟨fun q => (by cases q), fun q => absurd he (q.1 j (Nat.le_refl _) (by omega))⟩
    · obtain ⟨b, h1, h2⟩ := ih (j + 1) (by omega)
      refine ⟨b, ev_succ ?_, ?_⟩
      · simp only [tape_Apart.l1, e3]
        exact ev_pos (by omega) (ev_pos (by omega) (ev_pos (by omega) (ev_bind hS (ev_neg (by simp [he]) h1))))
      · rw [h2]
        refine ⟨fun q => ⟨fun c hc1 hc2 => ?_, q.2⟩, fun q => ⟨fun c hc1 hc2 => q.1 c (by omega) hc2, q.2⟩⟩
        by_cases hcj : c = j
        · rw [hcj]; exact he
        · exact q.1 c (by omega) hc2
theorem tApart_l0 (x : List (List Int)) (hl : x.length ≤ 1000) (hB : ∀ y ∈ x, IsB y) (hs : ∀ y ∈ x, y.length ≤ 1000) : ∀ (d i : Nat), i + d = x.length → ∃ b, Ev (fun k => tape_Apart.l0 k x (i : Int)) b ∧ (b = true ↔ ∀ a c, i ≤ a → a < x.length → c < a → Unlike x a c) := by
  intro d
  induction d with
  | zero =>
    intro i hi
    refine ⟨true, ev_succ ?_, ⟨fun _ a c h1 h2 => by omega, fun _ => rfl⟩⟩
    simp only [tape_Apart.l0]
    exact ev_neg (by omega) (Ev.now _)
  | succ d ih =>
    intro i hi
    obtain ⟨b, h1, h2⟩ := tApart_l1 x hl hB hs i (by omega) _ (ih (i + 1) (by omega)) i 0 (by omega)
    refine ⟨b, ev_succ ?_, ?_⟩
    · simp only [tape_Apart.l0]
      exact ev_pos (by omega) h1
    · rw [h2]
      refine ⟨fun q a c h3 h4 h5 => ?_, fun q => ⟨fun c _ hc => q i c (Nat.le_refl _) (by omega) hc, fun a c h3 h4 h5 => q a c (by omega) h4 h5⟩⟩
      by_cases hai : a = i
      · subst hai; exact q.1 c (Nat.zero_le _) h5
      · exact q.2 a c (by omega) h4 h5
theorem rApart_l1 (x : List (List Int)) (n : Int) (hl : x.length ≤ 1000) (hs : ∀ y ∈ x, y.length ≤ 1000) (i : Nat) (hi : i < x.length) (Q : Prop) (h : ∃ b, Ev (fun k => deedboxref11_Apart.l0 k ((i + 1 : Nat) : Int) x n) b ∧ (b = true ↔ Q)) : ∀ (d j : Nat), j + d = x.length → ∃ b, Ev (fun k => deedboxref11_Apart.l1 k (i : Int) (j : Int) x n) b ∧ (b = true ↔ (∀ c, j ≤ c → c < x.length → Unlike x i c) ∧ Q) := by
  have e2 : wrap64 ((i : Int) + 1) = ((i + 1 : Nat) : Int) := by rw [wr (by omega) (by omega)]; rfl
  intro d
  induction d with
  | zero =>
    intro j hj
    obtain ⟨b, h1, h2⟩ := h
    refine ⟨b, ev_succ ?_, ?_⟩
    · simp only [deedboxref11_Apart.l1, e2]
      exact ev_neg (by omega) h1
    · rw [h2]
      exact ⟨fun q => ⟨fun c hc1 hc2 => by omega, q⟩, fun q => q.2⟩
  | succ d ih =>
    intro j hj
    have e3 : wrap64 ((j : Int) + 1) = ((j + 1 : Nat) : Int) := by rw [wr (by omega) (by omega)]; rfl
    have p1 : (rd_L1 x (i : Int)).length ≤ 1000 := by rw [rdL_at x i hi]; exact hs _ (List.getElem_mem hi)
    have hS := Same_ev (rd_L1 x (i : Int)) (rd_L1 x (j : Int)) (by omega)
    by_cases he : rd_L1 x (i : Int) = rd_L1 x (j : Int)
    · refine ⟨false, ev_succ ?_, ?_⟩
      · simp only [deedboxref11_Apart.l1]
        exact ev_pos (by omega) (ev_pos (by omega) (ev_pos (by omega) (ev_pos (by omega) (ev_bind hS (ev_pos (decide_eq_true he) (Ev.now _))))))
      · exact ⟨fun q => (by cases q), fun q => absurd he (q.1 j (Nat.le_refl _) (by omega))⟩
    · obtain ⟨b, h1, h2⟩ := ih (j + 1) (by omega)
      refine ⟨b, ev_succ ?_, ?_⟩
      · simp only [deedboxref11_Apart.l1, e3]
        exact ev_pos (by omega) (ev_pos (by omega) (ev_pos (by omega) (ev_pos (by omega) (ev_bind hS (ev_neg (by simp [he]) h1)))))
      · rw [h2]
        refine ⟨fun q => ⟨fun c hc1 hc2 => ?_, q.2⟩, fun q => ⟨fun c hc1 hc2 => q.1 c (by omega) hc2, q.2⟩⟩
        by_cases hcj : c = j
        · rw [hcj]; exact he
        · exact q.1 c (by omega) hc2
theorem rApart_l0 (x : List (List Int)) (n : Int) (hl : x.length ≤ 1000) (hs : ∀ y ∈ x, y.length ≤ 1000) : ∀ (d i : Nat), i + d = x.length → ∃ b, Ev (fun k => deedboxref11_Apart.l0 k (i : Int) x n) b ∧ (b = true ↔ ∀ a c, i ≤ a → a < c → c < x.length → Unlike x a c) := by
  intro d
  induction d with
  | zero =>
    intro i hi
    refine ⟨true, ev_succ ?_, ⟨fun _ a c h1 h2 h3 => by omega, fun _ => rfl⟩⟩
    simp only [deedboxref11_Apart.l0]
    exact ev_neg (by omega) (Ev.now _)
  | succ d ih =>
    intro i hi
    obtain ⟨b, h1, h2⟩ := rApart_l1 x n hl hs i (by omega) _ (ih (i + 1) (by omega)) d (i + 1) (by omega)
    have e2 : wrap64 ((i : Int) + 1) = ((i + 1 : Nat) : Int) := by rw [wr (by omega) (by omega)]; rfl
    refine ⟨b, ev_succ ?_, ?_⟩
    · simp only [deedboxref11_Apart.l0, e2]
      exact ev_pos (by omega) h1
    · rw [h2]
      refine ⟨fun q a c h3 h4 h5 => ?_, fun q => ⟨fun c hc1 hc2 => q i c (Nat.le_refl _) (by omega) hc2, fun a c h3 h4 h5 => q a c (by omega) h4 h5⟩⟩
      by_cases hai : a = i
      · subst hai; exact q.1 c (by omega) h5
      · exact q.2 a c (by omega) h4 h5
theorem Apart_both (x : List (List Int)) (n : Int) (hl : x.length ≤ 1000) (hB : ∀ y ∈ x, IsB y) (hs : ∀ y ∈ x, y.length ≤ 1000) : ∃ b, Ev (fun k => tape_Tape_Apart.f k x n) (b, x, n) ∧ Ev (fun k => deedboxref11_Apart.f k x n) b := by
  obtain ⟨b, h1, h2⟩ := tApart_l0 x hl hB hs x.length 0 (by omega)
  obtain ⟨c, h3, h4⟩ := rApart_l0 x n hl hs x.length 0 (by omega)
  have e : c = b := by
    rw [Bool.eq_iff_iff, h2, h4]
    exact ⟨fun q a c _ ha hc => fun e => q c a (Nat.zero_le _) hc ha e.symm, fun q a c _ ha hc => fun e => q c a (Nat.zero_le _) hc ha e.symm⟩
  subst e
  refine ⟨c, ?_, h3⟩
  unfold tape_Tape_Apart.f
  exact ev_bind h1 (Ev.now _)
theorem draws_l0 (L : List (List Int)) (a1 : Int) (ha : 0 ≤ a1 ∧ a1 < 256) (hl : L.length ≤ 1000) (hs : ∀ y ∈ L, y.length ≤ 1000) : ∀ (d : Nat) (x n : Int), x + d = Int.tmod a1 60 → 0 ≤ x → 0 ≤ n → n ≤ 1000000 → Ev (fun k => deedboxlaw11_TapeDraws.l0 k a1 x L n L n) true := by
  have hm : Int.tmod a1 60 = a1 % 60 := Int.tmod_eq_emod_of_nonneg ha.1
  intro d
  induction d with
  | zero =>
    intro x n hx h0 hn0 hn1
    refine ev_succ ?_
    simp only [deedboxlaw11_TapeDraws.l0]
    rw [wr (x := a1) (by omega) (by omega)]
    exact ev_neg (by omega) (ev_bind works_ok (Ev.now _))
  | succ d ih =>
    intro x n hx h0 hn0 hn1
    have e1 : wrap64 (x + 1) = x + 1 := wr (by omega) (by omega)
    refine ev_succ ?_
    simp only [deedboxlaw11_TapeDraws.l0]
    rw [wr (x := a1) (by omega) (by omega), e1]
    refine ev_pos (by omega) ?_
    unfold deedboxref11_Draw.f tape_Tape_Draw.f tape_Tape_Drawn.f tape_Tape_Left.f
    by_cases c : n ≥ (L.length : Int)
    · refine ev_bind (ev_pos c (Ev.now _)) (ev_bind (ev_pos c (Ev.now _)) (ev_bind (Same_self _ _ (by simp) rfl) (ev_pos rfl (ev_pos rfl (ev_some rfl (ev_pos rfl (ev_some rfl (ev_pos rfl ?_))))))))
      exact ih (x + 1) n (by omega) (by omega) hn0 hn1
    · obtain ⟨i, rfl⟩ : ∃ i : Nat, n = (i : Int) := ⟨n.toNat, by omega⟩
      have hr := rdL_at L i (by omega)
      have hk := hs _ (List.getElem_mem (show i < L.length by omega))
      have hJ := Join_ev [L[i]] (by rw [lens_one]; omega) (by simp)
      have e2 : wrap64 ((i : Int) + 1) = (i : Int) + 1 := wr (by omega) (by omega)
      rw [hr, e2]
      refine ev_bind (a := (L, (i : Int) + 1, L[i], 0)) (ev_neg c (ev_pos (by omega) (ev_pos (by omega) (Ev.now _)))) (ev_bind (a := (L[i], 0, L, (i : Int) + 1)) (ev_neg c (ev_pos (by omega) (ev_bind hJ (ev_to (Ev.now _) (by simp))))) (ev_bind (Same_self _ _ (by show L[i].length ≤ _; omega) rfl) (ev_pos rfl (ev_pos rfl (ev_some rfl (ev_pos rfl (ev_some rfl (ev_pos rfl ?_))))))))
      exact ih (x + 1) ((i : Int) + 1) (by omega) (by omega) (by omega) (by omega)
/-- TapeDraws: which keys are drawn of any tape, and whether no two are the same. -/
theorem TapeDraws : deedboxlaw11_TapeDraws.Pure := by
  intro l0 a1 m0 w0 w1
  have h1 := wf_u8 w1
  refine Ev.rounds (g := fun k => deedboxlaw11_TapeDraws.f k l0 a1) ?_
  unfold deedboxlaw11_TapeDraws.f
  rcases Short_ev l0 with h | ⟨h, h2, h3⟩
  · exact ev_bind h (ev_pos (by decide) (ev_bind works_ok (Ev.now _)))
  · have hB : ∀ y ∈ l0.map pad32, IsB y := fun y hy => by
      obtain ⟨x, hx, rfl⟩ := List.mem_map.1 hy
      exact pad32_isB (isB_wf (w0 x hx).2)
    have hs : ∀ y ∈ l0.map pad32, y.length ≤ 1000 := fun y hy => by
      obtain ⟨x, hx, rfl⟩ := List.mem_map.1 hy
      rw [pad32_length]
      omega
    have hl : (l0.map pad32).length ≤ 1000 := by rw [List.length_map]; omega
    obtain ⟨b, hA1, hA2⟩ := Apart_both (l0.map pad32) 0 hl hB hs
    refine ev_bind h (ev_neg (by decide) (ev_bind (tNew_ev l0 (by omega)) (ev_bind (rNew_ev l0 (by omega) (fun x hx => (w0 x hx).1)) (ev_bind hA1 (ev_bind hA2 (ev_neg (by simp) ?_))))))
    have hm : Int.tmod a1 60 = a1 % 60 := Int.tmod_eq_emod_of_nonneg h1.1
    exact draws_l0 (l0.map pad32) a1 h1 hl hs (Int.tmod a1 60).toNat 0 0 (by omega) (by omega) (by omega) (by omega)
end Go.Proofs.Ytagoofdopgopoaa.Pure
