/- PathBegins: for every key and every beginning of at most 100 bytes, whether the key begins so, the least key behind all that do, and the next key, are what the reference says. -/
import Derived.Test.YtagoofdopgopoaaPPathBeginsx4
import Derived.Laws.BitsLemmas
import Derived.Laws.Strings
namespace Go.Proofs.Ytagoofdopgopoaa.Pure
open Go.RowKit Go.Proofs.Ytagoofdopgopoaa.PPathBegins Go.Proofs.YtagoofdopgopoaaW.PrintWords Go.Proofs.YtagoofdopgopoaaW.PrintLast Go.Proofs.YtagoofdopgopoaaW.PrintMore
set_option linter.unusedVariables false
set_option linter.unusedSimpArgs false
/-! #### bytes and numbers -/
def IsB (l : List Int) : Prop := ∀ x ∈ l, 0 ≤ x ∧ x < 256
theorem isB_wf {l : List Int} (h : ∀ x ∈ l, (Lit.int .u8 x).wf = true) : IsB l := fun x hx => by
  have := h x hx
  simp [Lit.wf, IntKind.min, IntKind.max, IntKind.bits, IntKind.signed] at this
  omega
theorem wf_u16 {x : Int} (h : (Lit.int .u16 x).wf = true) : 0 ≤ x ∧ x < 65536 := by
  simp [Lit.wf, IntKind.min, IntKind.max, IntKind.bits, IntKind.signed] at h
  omega
theorem wf_u32 {x : Int} (h : (Lit.int .u32 x).wf = true) : 0 ≤ x ∧ x < 4294967296 := by
  simp [Lit.wf, IntKind.min, IntKind.max, IntKind.bits, IntKind.signed] at h
  omega
theorem wf_u64 {x : Int} (h : (Lit.int .u64 x).wf = true) : 0 ≤ x ∧ x < 18446744073709551616 := by
  simp [Lit.wf, IntKind.min, IntKind.max, IntKind.bits, IntKind.signed] at h
  omega
theorem wf_u8 {x : Int} (h : (Lit.int .u8 x).wf = true) : 0 ≤ x ∧ x < 256 := by
  simp [Lit.wf, IntKind.min, IntKind.max, IntKind.bits, IntKind.signed] at h
  omega
theorem wf_i64 {x : Int} (h : (Lit.int .i64 x).wf = true) : -9223372036854775808 ≤ x ∧ x < 9223372036854775808 := by
  simp [Lit.wf, IntKind.min, IntKind.max, IntKind.bits, IntKind.signed] at h
  omega
theorem wr {x : Int} (h0 : -9223372036854775808 ≤ x) (h1 : x < 9223372036854775808) : wrap64 x = x := by
  unfold wrap64
  omega
theorem wu {x : Int} (h0 : 0 ≤ x) (h1 : x < 18446744073709551616) : IntKind.u64.wrap x = x := by
  simp [IntKind.wrap, IntKind.bits, IntKind.signed]
  omega
theorem wu_mod (x : Int) : IntKind.u64.wrap x = x % 18446744073709551616 := by
  simp [IntKind.wrap, IntKind.bits, IntKind.signed]
theorem isB_nil : IsB [] := fun x hx => by cases hx
theorem isB_append {a b : List Int} (ha : IsB a) (hb : IsB b) : IsB (a ++ b) := fun x hx => by
  rcases List.mem_append.1 hx with h | h
  · exact ha x h
  · exact hb x h
theorem isB_cons {x : Int} {l : List Int} (h0 : 0 ≤ x) (h1 : x < 256) (hl : IsB l) : IsB (x :: l) := fun y hy => by
  rcases List.mem_cons.1 hy with rfl | h
  · exact ⟨h0, h1⟩
  · exact hl y h
theorem isB_tail {x : Int} {l : List Int} (h : IsB (x :: l)) : IsB l := fun y hy => h y (List.mem_cons_of_mem _ hy)
theorem isB_head {x : Int} {l : List Int} (h : IsB (x :: l)) : 0 ≤ x ∧ x < 256 := h x List.mem_cons_self
theorem isB_left {a b : List Int} (h : IsB (a ++ b)) : IsB a := fun x hx => h x (List.mem_append_left _ hx)
theorem isB_right {a b : List Int} (h : IsB (a ++ b)) : IsB b := fun x hx => h x (List.mem_append_right _ hx)
theorem rd_at (l : List Int) (i : Nat) (h : i < l.length) : rd l (i : Int) = l[i] := by
  unfold rd
  rw [Int.toNat_natCast, List.getD_eq_getElem?_getD, List.getElem?_eq_getElem h, Option.getD_some]
theorem drop_at {α : Type} (l : List α) (i : Nat) (h : i < l.length) : l.drop i = l[i] :: l.drop (i + 1) := List.drop_eq_getElem_cons h
/-- The number n in m bytes, the highest first. -/
def put : Nat → Int → List Int
  | 0, _ => []
  | m + 1, n => put m (n / 256) ++ [n % 256]
theorem put_length (m : Nat) : ∀ n, (put m n).length = m := by
  induction m with
  | zero => intro n; rfl
  | succ m ih => intro n; rw [put, List.length_append, ih]; rfl
theorem put_isB (m : Nat) : ∀ n, IsB (put m n) := by
  induction m with
  | zero => intro n; exact isB_nil
  | succ m ih => intro n; exact isB_append (ih _) (isB_cons (by omega) (by omega) isB_nil)
theorem put_cons (m : Nat) : ∀ n : Int, 0 ≤ n → put (m + 1) n = (n / 256 ^ m % 256) :: put m n := by
  induction m with
  | zero => intro n _; simp [put]
  | succ m ih =>
    intro n hn
    rw [put, ih (n / 256) (by omega), List.cons_append]
    rw [show put (m + 1) n = put m (n / 256) ++ [n % 256] from rfl]
    congr 1
    rw [Int.ediv_ediv_of_nonneg (by omega), Int.pow_succ, Int.mul_comm]
/-- The number of bytes, the highest first, as 64 bits hold it. -/
def get (l : List Int) : Int := l.foldl (fun n c => (n * 256 + c) % 18446744073709551616) 0
def getz (l : List Int) : Int := l.foldl (fun n c => n * 256 + c) 0
theorem getz_append (l : List Int) (c : Int) : getz (l ++ [c]) = getz l * 256 + c := by simp [getz, List.foldl_append]
theorem get_append (l : List Int) (c : Int) : get (l ++ [c]) = (get l * 256 + c) % 18446744073709551616 := by simp [get, List.foldl_append]
theorem get_range (l : List Int) : 0 ≤ get l ∧ get l < 18446744073709551616 := by
  rcases List.eq_nil_or_concat l with rfl | ⟨a, c, rfl⟩
  · simp [get]
  · rw [List.concat_eq_append, get_append]
    omega
theorem getz_put (m : Nat) : ∀ n : Int, 0 ≤ n → n < 256 ^ m → getz (put m n) = n := by
  induction m with
  | zero => intro n h0 h1; simp at h1; simp [put, getz]; omega
  | succ m ih =>
    intro n h0 h1
    rw [put, getz_append, ih (n / 256) (by omega) (by rw [Int.pow_succ] at h1; exact Int.ediv_lt_of_lt_mul (by decide) h1)]
    omega
theorem rev_ind {α : Type} {P : List α → Prop} (h0 : P []) (h1 : ∀ l c, P l → P (l ++ [c])) (l : List α) : P l := by
  have h : ∀ m : List α, P m.reverse := by
    intro m
    induction m with
    | nil => exact h0
    | cons c m ih => rw [List.reverse_cons]; exact h1 _ _ ih
  have := h l.reverse
  rwa [List.reverse_reverse] at this
theorem getz_nonneg (l : List Int) : IsB l → 0 ≤ getz l := by
  refine rev_ind (P := fun l => IsB l → 0 ≤ getz l) (fun _ => by simp [getz]) (fun l c ih h => ?_) l
  rw [getz_append]
  have := ih (isB_left h)
  have := isB_head (isB_right h)
  omega
theorem get_getz (l : List Int) : get l = getz l % 18446744073709551616 := by
  refine rev_ind (P := fun l => get l = getz l % 18446744073709551616) (by simp [get, getz]) (fun l c ih => ?_) l
  rw [get_append, getz_append, ih]
  omega
theorem get_put (m : Nat) (n : Int) (h0 : 0 ≤ n) (h1 : n < 256 ^ m) (h2 : n < 18446744073709551616) : get (put m n) = n := by
  rw [get_getz, getz_put m n h0 h1]
  omega
theorem ev_pos {α : Type} {c : Prop} [Decidable c] {f g : Nat → Option α} {r : α} (h : c) (k : Ev f r) : Ev (fun n => if c then f n else g n) r := by
  obtain ⟨K, k⟩ := k
  exact ⟨K, fun n hn => by simp only [if_pos h]; exact k n hn⟩
theorem ev_neg {α : Type} {c : Prop} [Decidable c] {f g : Nat → Option α} {r : α} (h : ¬ c) (k : Ev g r) : Ev (fun n => if c then f n else g n) r := by
  obtain ⟨K, k⟩ := k
  exact ⟨K, fun n hn => by simp only [if_neg h]; exact k n hn⟩
theorem ev_bind {α β : Type} {g : Nat → Option α} {f : Nat → α → Option β} {a : α} {r : β} (h : Ev g a) (k : Ev (fun n => f n a) r) : Ev (fun n => (g n).bind (f n)) r := Ev.bind h k
theorem ev_some {α β : Type} {x : Option α} {f : Nat → α → Option β} {a : α} {r : β} (h : x = some a) (k : Ev (fun n => f n a) r) : Ev (fun n => x.bind (f n)) r := by
  subst h
  exact k
theorem ev_to {α : Type} {g : Nat → Option α} {r r' : α} (h : Ev g r) (e : r = r') : Ev g r' := by
  subst e
  exact h
theorem ev_at {α : Type} {g : Nat → Option α} {r : α} (K : Nat) (h : ∀ k, K ≤ k → g k = some r) : Ev g r := ⟨K, h⟩
/-- One round of a loop: the rounds are counted down first. -/
theorem ev_succ {α : Type} {g : Nat → Option α} {r : α} (k : Ev (fun n => g (n + 1)) r) : Ev g r := Ev.step (fun _ => rfl) k
/-! #### strings and bytes -/
theorem str_bytes (s : ByteArray) : strOfNums (bytesOf s) = s := by
  have h : (strOfNums (bytesOf s)).data.toList = s.data.toList := by
    rw [strOfNums_data, bytesOf, List.map_map]
    refine (List.map_congr_left fun b _ => ?_).trans (List.map_id _)
    simp
  rcases s with ⟨a⟩
  have h2 := congrArg List.toArray h
  simp only [Array.toArray_toList] at h2
  exact congrArg ByteArray.mk h2
theorem bytesOf_inj {a b : ByteArray} (h : bytesOf a = bytesOf b) : a = b := by rw [← str_bytes a, h, str_bytes b]
theorem toList_map (s : ByteArray) : s.toList.map (fun b => (b.toNat : Int)) = bytesOf s := by rw [ByteArray.toList_eq]; rfl
theorem toList_inj {a b : ByteArray} (h : a.toList = b.toList) : a = b := bytesOf_inj (by rw [← toList_map, ← toList_map, h])
theorem nums_str {l : List Int} (h : IsB l) : bytesOf (strOfNums l) = l := by
  unfold bytesOf
  rw [strOfNums_data, List.map_map]
  refine (List.map_congr_left fun x hx => ?_).trans (List.map_id _)
  have := h x hx
  simp
  omega
theorem str_toList (l : List Int) (s : ByteArray) (h : l = bytesOf s) : (strOfNums l).toList = s.toList := by rw [h, str_bytes]
/-- Byte by byte less. -/
def less : List Int → List Int → Bool
  | _, [] => false
  | [], _ :: _ => true
  | a :: x, b :: y => decide (a < b) || (a == b && less x y)
theorem less_self (x : List Int) : less x x = false := by
  induction x with
  | nil => rfl
  | cons a x ih => simp [less, ih]
theorem less_pre (p x y : List Int) : less (p ++ x) (p ++ y) = less x y := by
  induction p with
  | nil => rfl
  | cons a p ih => simp [less, ih]
theorem bytesLess_less (x y : List UInt8) : Op.bytesLess x y = less (x.map fun b => (b.toNat : Int)) (y.map fun b => (b.toNat : Int)) := by
  induction x generalizing y with
  | nil => cases y <;> simp [Op.bytesLess, less]
  | cons a x ih =>
    cases y with
    | nil => simp [Op.bytesLess, less]
    | cons b y =>
      simp only [Op.bytesLess, less, List.map_cons, ih]
      congr 1
      · rw [Bool.eq_iff_iff]
        simp [UInt8.lt_iff_toNat_lt]
      · congr 1
        rw [Bool.eq_iff_iff]
        simp [← UInt8.toNat_inj]
        omega
theorem strLess (a b : ByteArray) : Op.bytesLess a.toList b.toList = less (bytesOf a) (bytesOf b) := by rw [bytesLess_less, toList_map, toList_map]
theorem less_put (m : Nat) : ∀ x y : Int, 0 ≤ x → 0 ≤ y → x < 256 ^ m → y < 256 ^ m → less (put m x) (put m y) = decide (x < y) := by
  have snoc : ∀ (a b : List Int) (c d : Int), a.length = b.length → less (a ++ [c]) (b ++ [d]) = (less a b || (a == b && decide (c < d))) := by
    intro a
    induction a with
    | nil => intro b c d h; cases b with | nil => simp [less] | cons => cases h
    | cons u a ih =>
      intro b c d h
      cases b with
      | nil => cases h
      | cons v b =>
        simp only [List.cons_append, less]
        rw [ih b c d (by simpa using h)]
        by_cases e : u = v
        · subst e; simp
        · have hq : (u == v) = false := beq_eq_false_iff_ne.2 e
          simp [hq]
  have inj : ∀ (m : Nat) (x y : Int), 0 ≤ x → 0 ≤ y → x < 256 ^ m → y < 256 ^ m → put m x = put m y → x = y := by
    intro m x y h0 h1 h2 h3 h
    rw [← getz_put m x h0 h2, h, getz_put m y h1 h3]
  induction m with
  | zero => intro x y h0 h1 h2 h3; simp at h2 h3; simp [put, less]; omega
  | succ m ih =>
    intro x y h0 h1 h2 h3
    rw [Int.pow_succ] at h2 h3
    have a1 := Int.ediv_lt_of_lt_mul (by decide) h2
    have a2 := Int.ediv_lt_of_lt_mul (by decide) h3
    rw [put, put, snoc _ _ _ _ (by rw [put_length, put_length]), ih _ _ (by omega) (by omega) a1 a2]
    rw [Bool.eq_iff_iff]
    simp only [Bool.or_eq_true, decide_eq_true_eq, Bool.and_eq_true, beq_iff_eq]
    constructor
    · rintro (h | ⟨h, h'⟩)
      · omega
      · have := inj m _ _ (by omega) (by omega) a1 a2 h
        omega
    · intro h
      by_cases e : x / 256 = y / 256
      · right
        rw [e]
        exact ⟨rfl, by omega⟩
      · left
        omega
theorem less_zero (a b p q : List Int) (ha : ∀ x ∈ a, 0 < x) (hb : ∀ x ∈ b, 0 < x) (h : a ≠ b) : less (a ++ 0 :: p) (b ++ 0 :: q) = less a b := by
  induction a generalizing b with
  | nil =>
    cases b with
    | nil => exact absurd rfl h
    | cons v b =>
      have := hb v List.mem_cons_self
      simp [less, this]
  | cons u a ih =>
    cases b with
    | nil =>
      have := ha u List.mem_cons_self
      simp [less]
      omega
    | cons v b =>
      simp only [List.cons_append, less]
      by_cases e : u = v
      · subst e
        rw [ih b (fun x hx => ha x (List.mem_cons_of_mem _ hx)) (fun x hx => hb x (List.mem_cons_of_mem _ hx)) (fun e => h (by rw [e]))]
      · rw [show (u == v) = false from beq_eq_false_iff_ne.2 e, Bool.false_and, Bool.false_and]
/-! #### deedboxref01_Same -/
theorem Same_l0 (a b : List Int) (hl : a.length = b.length) (hm : a.length ≤ 9223372036854775807) : ∀ (d k i : Nat), i + d = a.length → d < k → deedboxref01_Same.l0 k a b (i : Int) = some (decide (a.drop i = b.drop i)) := by
  intro d
  induction d with
  | zero =>
    intro k i hi hk
    obtain ⟨k, rfl⟩ : ∃ m, k = m + 1 := ⟨k - 1, by omega⟩
    simp only [deedboxref01_Same.l0]
    rw [if_neg (by omega), List.drop_of_length_le (by omega), List.drop_of_length_le (by omega)]
    simp
  | succ d ih =>
    intro k i hi hk
    obtain ⟨k, rfl⟩ : ∃ m, k = m + 1 := ⟨k - 1, by omega⟩
    simp only [deedboxref01_Same.l0]
    rw [if_pos (by omega), if_pos (by omega), if_pos (by omega), rd_at a i (by omega), rd_at b i (by omega), wr (by omega) (by omega), drop_at a i (by omega), drop_at b i (by omega)]
    have h := ih k (i + 1) (by omega) (by omega)
    rw [Int.natCast_add] at h
    by_cases e : a[i] = b[i]
    · rw [if_pos e, e]
      refine h.trans (congrArg some (decide_eq_decide.2 ?_))
      rw [List.cons.injEq]
      exact ⟨fun h => ⟨rfl, h⟩, fun h => h.2⟩
    · rw [if_neg e, decide_eq_false]
      rw [List.cons.injEq]
      exact fun h => e h.1
theorem Same_ev (a b : List Int) (hm : a.length ≤ 9223372036854775807) : Ev (fun k => deedboxref01_Same.f k a b) (decide (a = b)) := by
  unfold deedboxref01_Same.f
  by_cases hl : a.length = b.length
  · refine ev_pos (by omega) ⟨a.length + 1, fun k hk => ?_⟩
    have := Same_l0 a b hl hm a.length k 0 (by omega) (by omega)
    simpa using this
  · refine ev_neg (by omega) ⟨0, fun k _ => ?_⟩
    rw [decide_eq_false]
    rintro rfl
    exact hl rfl
theorem Same_self (a b : List Int) (hm : a.length ≤ 9223372036854775807) (h : a = b) : Ev (fun k => deedboxref01_Same.f k a b) true := ev_to (Same_ev a b hm) (by rw [decide_eq_true h])
/-! #### octet_Join -/
def lens (l : List (List Int)) : Nat := (l.map List.length).sum
theorem lens_append (a b : List (List Int)) : lens (a ++ b) = lens a + lens b := by simp [lens]
theorem lens_cons (x : List Int) (b : List (List Int)) : lens (x :: b) = x.length + lens b := by simp [lens]
theorem lens_flatten (a : List (List Int)) : a.flatten.length = lens a := by simp [lens, List.length_flatten]
theorem rdL_at (l : List (List Int)) (i : Nat) (h : i < l.length) : rd_L1 l (i : Int) = l[i] := by
  unfold rd_L1
  rw [Int.toNat_natCast, List.getD_eq_getElem?_getD, List.getElem?_eq_getElem h, Option.getD_some]
theorem take_at {α : Type} (l : List α) (i : Nat) (h : i < l.length) : l.take (i + 1) = l.take i ++ [l[i]] := by
  rw [List.take_succ_eq_append_getElem h]
theorem lens_take (l : List (List Int)) (i : Nat) : lens (l.take i) ≤ lens l := by
  have := lens_append (l.take i) (l.drop i)
  rw [List.take_append_drop] at this
  omega
theorem Join_l1 (l : List (List Int)) (hb : lens l < 140737488355328) (hl : l.length ≤ 9223372036854775807) : ∀ (d k i : Nat), i + d = l.length → d < k → octet_Join.l1 k (l.take i).flatten l (l.length : Int) (i : Int) = some l.flatten := by
  intro d
  induction d with
  | zero =>
    intro k i hi hk
    obtain ⟨k, rfl⟩ : ∃ m, k = m + 1 := ⟨k - 1, by omega⟩
    simp only [octet_Join.l1]
    rw [if_neg (by omega), List.take_of_length_le (by omega)]
  | succ d ih =>
    intro k i hi hk
    obtain ⟨k, rfl⟩ : ∃ m, k = m + 1 := ⟨k - 1, by omega⟩
    simp only [octet_Join.l1]
    have h1 := lens_take l (i + 1)
    rw [take_at l i (by omega), lens_append] at h1
    have h2 : lens [l[i]] = l[i].length := by simp [lens]
    rw [if_pos (by omega), if_pos (by omega), if_pos (by omega), rdL_at l i (by omega), if_pos (by rw [lens_flatten]; omega), wr (by omega) (by omega)]
    have h := ih k (i + 1) (by omega) (by omega)
    rw [take_at l i (by omega), List.flatten_append] at h
    simpa using h
theorem Join_l0 (l : List (List Int)) (hb : lens l < 140737488355328) (hl : l.length ≤ 9223372036854775807) : ∀ (d k i : Nat), i + d = l.length → d + l.length + 1 < k → octet_Join.l0 k l (lens (l.take i) : Int) l (l.length : Int) (i : Int) = some l.flatten := by
  intro d
  induction d with
  | zero =>
    intro k i hi hk
    obtain ⟨k, rfl⟩ : ∃ m, k = m + 1 := ⟨k - 1, by omega⟩
    simp only [octet_Join.l0]
    have h := Join_l1 l hb hl l.length k 0 (by omega) (by omega)
    have h1 := lens_take l i
    rw [if_neg (by omega), if_pos (by omega), if_pos (by omega)]
    simpa using h
  | succ d ih =>
    intro k i hi hk
    obtain ⟨k, rfl⟩ : ∃ m, k = m + 1 := ⟨k - 1, by omega⟩
    simp only [octet_Join.l0]
    have h1 := lens_take l (i + 1)
    have h := ih k (i + 1) (by omega) (by omega)
    rw [take_at l i (by omega), lens_append] at h1 h
    have h2 : lens [l[i]] = l[i].length := by simp [lens]
    rw [if_pos (by omega), if_pos (by omega), if_pos (by omega), rdL_at l i (by omega), wr (by omega) (by omega), wr (by omega) (by omega)]
    rw [h2] at h
    rw [Int.natCast_add, Int.natCast_add] at h
    exact h
theorem Join_ev (l : List (List Int)) (hb : lens l < 140737488355328) (hl : l.length ≤ 9223372036854775807) : Ev (fun k => octet_Join.f k l) l.flatten := by
  refine ⟨2 * l.length + 2, fun k hk => ?_⟩
  have := Join_l0 l hb hl l.length k 0 (by omega) (by omega)
  unfold octet_Join.f
  simpa [lens] using this
/-! #### deedboxref18_Less -/
theorem Less_l0 (a b : List Int) (hm : a.length ≤ 9223372036854775806) : ∀ (d k i : Nat), i + d = a.length → i ≤ b.length → 2 * d + 2 ≤ k → a.take i = b.take i → deedboxref18_Less.l0 k a b (i : Int) = some (less (a.drop i) (b.drop i)) := by
  intro d
  induction d with
  | zero =>
    intro k i hi hib hk ht
    obtain ⟨k, rfl⟩ : ∃ m, k = m + 2 := ⟨k - 2, by omega⟩
    simp only [deedboxref18_Less.l0]
    rw [if_neg (by omega)]
    simp only [deedboxref18_Less.j1]
    rw [if_neg (by decide), List.drop_of_length_le (show a.length ≤ i by omega)]
    by_cases e : b.length = i
    · rw [List.drop_of_length_le (show b.length ≤ i by omega), decide_eq_false (by omega)]
      rfl
    · rw [drop_at b i (by omega), decide_eq_true (by omega)]
      rfl
  | succ d ih =>
    intro k i hi hib hk ht
    obtain ⟨k, rfl⟩ : ∃ m, k = m + 2 := ⟨k - 2, by omega⟩
    simp only [deedboxref18_Less.l0]
    rw [if_pos (by omega)]
    simp only [deedboxref18_Less.j1]
    by_cases e : b.length = i
    · rw [decide_eq_false (show ¬ (i : Int) < (b.length : Int) by omega), if_neg (by decide), List.drop_of_length_le (show b.length ≤ i by omega), decide_eq_false (by omega)]
      cases a.drop i <;> rfl
    · rw [decide_eq_true (show (i : Int) < (b.length : Int) by omega), if_pos rfl, if_pos (by omega), if_pos (by omega), if_pos (by omega), rd_at a i (by omega), rd_at b i (by omega), wr (by omega) (by omega), drop_at a i (by omega), drop_at b i (by omega)]
      by_cases e2 : a[i] = b[i]
      · rw [if_pos e2]
        have h := ih k (i + 1) (by omega) (by omega) (by omega) (by rw [List.take_succ_eq_append_getElem (by omega), List.take_succ_eq_append_getElem (by omega), ht, e2])
        rw [Int.natCast_add] at h
        refine h.trans ?_
        simp only [less, e2]
        simp
      · rw [if_neg e2]
        simp only [less]
        simp [e2]
theorem Less_ev (a b : List Int) (hm : a.length ≤ 9223372036854775806) : Ev (fun k => deedboxref18_Less.f k a b) (less a b) := by
  refine ⟨2 * a.length + 2, fun k hk => ?_⟩
  have := Less_l0 a b hm a.length k 0 (by omega) (by omega) (by omega) (by simp)
  unfold deedboxref18_Less.f
  simpa using this
/-! #### path_Behind, deedboxref25_Behind -/
/-- How many bytes stand ahead of the last ones that are 255. -/
def cutFF : List Int → List Int
  | [] => []
  | a :: l => if cutFF l = [] ∧ a = 255 then [] else a :: cutFF l
theorem cutFF_snoc_ff (l : List Int) : cutFF (l ++ [255]) = cutFF l := by
  induction l with
  | nil => rfl
  | cons a l ih => simp only [List.cons_append, cutFF, ih]
theorem cutFF_snoc (l : List Int) (c : Int) (h : c ≠ 255) : cutFF (l ++ [c]) = l ++ [c] := by
  induction l with
  | nil => simp [cutFF, h]
  | cons a l ih => simp [List.cons_append, cutFF, ih]
/-- The least one behind all that begin so. -/
def bump : List Int → List Int
  | [] => []
  | [a] => [a + 1]
  | a :: b :: l => a :: bump (b :: l)
theorem bump_snoc (l : List Int) (c : Int) : bump (l ++ [c]) = l ++ [c + 1] := by
  induction l with
  | nil => rfl
  | cons a l ih =>
    cases l with
    | nil => rfl
    | cons b l => simp only [List.cons_append] at ih ⊢; rw [bump, ih]
def behind (l : List Int) : List Int := bump (cutFF l)
theorem behind_ff (l : List Int) : behind (l ++ [255]) = behind l := by rw [behind, cutFF_snoc_ff]; rfl
theorem behind_snoc (l : List Int) (c : Int) (h : c ≠ 255) : behind (l ++ [c]) = l ++ [c + 1] := by rw [behind, cutFF_snoc l c h, bump_snoc]
theorem take_split (l : List Int) (n : Nat) (h : n < l.length) : l.take (n + 1) = l.take n ++ [l[n]] := List.take_succ_eq_append_getElem h
theorem set_take (l : List Int) (n : Nat) (h : n < l.length) (v : Int) : (l.set n v).take (n + 1) = l.take n ++ [v] := by
  rw [List.take_succ_eq_append_getElem (by rw [List.length_set]; exact h), List.getElem_set_self, List.take_set_of_le (Nat.le_refl _)]
theorem pBehind_l0 (l : List Int) (hb : IsB l) (hl : l.length ≤ 1000000) : ∀ (n k : Nat), n ≤ l.length → n < k → path_Behind.l0 k l ((n : Int) - 1) = some (behind (l.take n)) := by
  intro n
  induction n with
  | zero =>
    intro k hn hk
    obtain ⟨k, rfl⟩ : ∃ m, k = m + 1 := ⟨k - 1, by omega⟩
    simp only [path_Behind.l0]
    rw [if_neg (by omega)]
    rfl
  | succ n ih =>
    intro k hn hk
    obtain ⟨k, rfl⟩ : ∃ m, k = m + 1 := ⟨k - 1, by omega⟩
    simp only [path_Behind.l0]
    have hc := hb l[n] (List.getElem_mem (by omega))
    rw [show (((n + 1 : Nat) : Int) - 1) = (n : Int) by omega, if_pos (by omega), if_pos (by omega), if_pos (by omega), rd_at l n (by omega), take_split l n (by omega), wr (x := (n : Int) + 1) (by omega) (by omega), wr (x := (n : Int) - 1) (by omega) (by omega)]
    by_cases e : l[n] < 255
    · rw [if_pos e, if_pos (by omega), if_pos (by omega), behind_snoc _ _ (by omega), show ((n : Int) + 1).toNat = n + 1 by omega, Int.toNat_natCast, set_take l n (by omega), show (l[n] + 1) % 256 = l[n] + 1 by omega]
    · rw [if_neg e, show l[n] = 255 by omega, behind_ff]
      exact ih k (by omega) (by omega)
theorem pBehind_ev (l : List Int) (hb : IsB l) (hl : l.length ≤ 1000000) : Ev (fun k => path_Behind.f k l) (behind l) := by
  unfold path_Behind.f
  refine ev_bind (a := l) (ev_to (Join_ev [l] (by simp [lens]; omega) (by simp)) (by simp)) ⟨l.length + 1, fun k hk => ?_⟩
  show path_Behind.l0 k l (wrap64 ((l.length : Int) - 1)) = _
  rw [wr (by omega) (by omega), pBehind_l0 l hb hl l.length k (by omega) (by omega), List.take_length]
theorem rBehind_l0 (l : List Int) (hb : IsB l) (hl : l.length ≤ 1000000) : ∀ (n k : Nat), n ≤ l.length → n < k → deedboxref25_Behind.l0 k l (n : Int) = some (behind (l.take n)) := by
  intro n
  induction n with
  | zero =>
    intro k hn hk
    obtain ⟨k, rfl⟩ : ∃ m, k = m + 1 := ⟨k - 1, by omega⟩
    simp only [deedboxref25_Behind.l0]
    rw [if_neg (by omega), if_pos (by omega)]
    rfl
  | succ n ih =>
    intro k hn hk
    obtain ⟨k, rfl⟩ : ∃ m, k = m + 1 := ⟨k - 1, by omega⟩
    simp only [deedboxref25_Behind.l0]
    have hc := hb l[n] (List.getElem_mem (by omega))
    have hlt : (l.take (n + 1)).length = n + 1 := by rw [List.length_take]; omega
    have e1 : wrap64 (((n + 1 : Nat) : Int) - 1) = (n : Int) := by rw [wr (by omega) (by omega)]; omega
    rw [e1, if_pos (by omega), if_pos (by omega), if_pos (by omega), rd_at l n (by omega)]
    by_cases e : l[n] = 255
    · rw [if_pos e, take_split l n (by omega), e, behind_ff]
      exact ih k (by omega) (by omega)
    · rw [if_neg e, if_neg (by omega), if_pos (by omega), if_pos (by omega)]
      simp only [Option.bind_some, Int.toNat_natCast, List.nil_append]
      rw [if_pos (by rw [hlt]; simp; omega), if_pos (by rw [hlt]; omega), rd_at _ n (by rw [hlt]; omega), List.getElem_take, show (l[n] + 1) % 256 = l[n] + 1 by omega, take_split l n (by omega), behind_snoc _ _ e]
      congr 1
      rw [List.set_append_right _ _ (by rw [List.length_take]; omega)]
      congr 1
      rw [show n - (l.take n).length = 0 by rw [List.length_take]; omega]
      rfl
theorem rBehind_ev (l : List Int) (hb : IsB l) (hl : l.length ≤ 1000000) : Ev (fun k => deedboxref25_Behind.f k l) (behind l) := by
  refine ⟨l.length + 1, fun k hk => ?_⟩
  have := rBehind_l0 l hb hl l.length k (Nat.le_refl _) (by omega)
  unfold deedboxref25_Behind.f
  rw [List.take_length] at this
  exact this
theorem less_trans_end : ∀ (k e : List Int), less k e = true → e ≠ [] := by
  rintro k e h rfl
  cases k <;> simp [less] at h
/-- A key begins so just if it is not ahead of that, and ahead of the one behind. -/
theorem begins_within (key with_ : List Int) (hk : IsB key) (hw : IsB with_) : (with_.isPrefixOf key) = (!less key with_ && (behind with_ == [] || less key (behind with_))) := by
  induction with_ generalizing key with
  | nil => cases key <;> simp [less, behind, cutFF, bump]
  | cons a w ih =>
    have ha := isB_head hw
    cases key with
    | nil => simp [less]
    | cons b key =>
      have hb := isB_head hk
      have h := ih key (isB_tail hk) (isB_tail hw)
      have hbh : behind (a :: w) = if cutFF w = [] then (if a = 255 then [] else [a + 1]) else a :: behind w := by
        unfold behind
        simp only [cutFF]
        cases hc : cutFF w with
        | nil => by_cases e : a = 255 <;> simp [e, bump]
        | cons c l => simp [bump]
      have hnil : behind w = [] ↔ cutFF w = [] := by
        unfold behind
        cases hc : cutFF w with
        | nil => simp [bump]
        | cons c l => cases l <;> simp [bump]
      simp only [List.isPrefixOf, less]
      rw [hbh, h]
      by_cases e : a = b
      · subst e
        by_cases hc : cutFF w = []
        · rw [if_pos hc, hnil.2 hc]
          by_cases e2 : a = 255
          · simp [e2]
          · simp [e2, less]
            intro _
            omega
        · rw [if_neg hc]
          have : behind w ≠ [] := fun h => hc (hnil.1 h)
          rw [show (behind w == []) = false from beq_eq_false_iff_ne.2 this]
          simp [less]
      · have e1 : (a == b) = false := beq_eq_false_iff_ne.2 e
        have e2 : (b == a) = false := beq_eq_false_iff_ne.2 (Ne.symm e)
        rw [e1, e2, Bool.false_and, Bool.false_and, Bool.or_false]
        symm
        by_cases hl : b < a
        · simp [hl]
        · rw [decide_eq_false hl]
          by_cases hc : cutFF w = []
          · rw [if_pos hc]
            by_cases e3 : a = 255
            · omega
            · rw [if_neg e3]
              simp only [less]
              have : ¬ b < a + 1 := by omega
              simp [this]
          · rw [if_neg hc]
            simp [less, e2]
            omega
theorem less_next (k : List Int) : less k (k ++ [0]) = true := by
  induction k with
  | nil => rfl
  | cons a k ih => simp [less, ih]
/-! #### path_Begins, path_Next, deedboxref25_Begins -/
theorem take_prefix (a b : List Int) (h : b.length ≤ a.length) : (decide (a.take b.length = b)) = b.isPrefixOf a := by
  rw [Bool.eq_iff_iff, decide_eq_true_iff, List.isPrefixOf_iff_prefix, List.prefix_iff_eq_take]
  exact ⟨fun h => h.symm, fun h => h.symm⟩
theorem not_prefix (a b : List Int) (h : a.length < b.length) : b.isPrefixOf a = false := by
  rw [Bool.eq_false_iff]
  intro h2
  have := (List.isPrefixOf_iff_prefix.1 h2).length_le
  omega
theorem strEq (a b : List Int) (ha : IsB a) (hb : IsB b) : ((strOfNums a).toList == (strOfNums b).toList) = decide (a = b) := by
  rw [Bool.eq_iff_iff, beq_iff_eq, decide_eq_true_iff]
  constructor
  · intro h
    rw [← nums_str ha, ← nums_str hb, toList_inj h]
  · rintro rfl
    rfl
theorem isB_take {l : List Int} (h : IsB l) (n : Nat) : IsB (l.take n) := fun x hx => h x (List.mem_of_mem_take hx)
theorem isB_drop {l : List Int} (h : IsB l) (n : Nat) : IsB (l.drop n) := fun x hx => h x (List.mem_of_mem_drop hx)
theorem pBegins_eq (a b : List Int) (ha : IsB a) (hb : IsB b) : path_Begins.f a b = some (b.isPrefixOf a) := by
  unfold path_Begins.f bytes_HasPrefix.f bytes_Equal.f
  by_cases h : b.length ≤ a.length
  · rw [if_pos (by omega), if_pos (by omega), if_pos (by omega)]
    simp only [Option.bind_some, Int.toNat_natCast]
    rw [strEq _ _ (isB_take ha _) hb, take_prefix a b h]
  · rw [if_neg (by omega), not_prefix a b (by omega)]
    rfl
theorem rBegins_ev (a b : List Int) (hl : a.length ≤ 1000000) : Ev (fun k => deedboxref25_Begins.f k a b) (b.isPrefixOf a) := by
  unfold deedboxref25_Begins.f
  by_cases h : b.length ≤ a.length
  · refine ev_pos (by omega) (ev_pos (by omega) (ev_pos (by omega) ?_))
    rw [Int.toNat_natCast, ← take_prefix a b h]
    exact ev_bind (Same_ev _ _ (by rw [List.length_take]; omega)) (Ev.now _)
  · refine ev_neg (by omega) ?_
    rw [not_prefix a b (by omega)]
    exact Ev.now _
theorem pNext_ev (a : List Int) (hl : a.length ≤ 1000000) : Ev (fun k => path_Next.f k a) (a ++ [0]) := by
  unfold path_Next.f
  exact ev_bind (ev_to (Join_ev [a, [0]] (by simp [lens]; omega) (by simp)) (by simp)) (Ev.now _)
theorem works_ok : Ev (fun k => deedboxlaw25_works.f k) true := Ev.of (fun k => deedboxlaw25_works.mono k) (k := 40) (by decide +kernel)
/-- PathBegins: whether a key begins so, and the least key behind all that do. -/
theorem PathBegins : deedboxlaw25_PathBegins.Pure := by
  intro l0 l1 m0 n0 w0 m1 n1 w1
  have b0 := isB_wf w0
  have b1 := isB_wf w1
  refine Ev.rounds (g := fun k => deedboxlaw25_PathBegins.f k l0 l1) ?_
  unfold deedboxlaw25_PathBegins.f
  have wk : Ev (fun k => deedboxlaw25_PathBegins.j0 k l0 l1 true) true := by
    refine ev_succ ?_
    simp only [deedboxlaw25_PathBegins.j0]
    exact ev_pos trivial (ev_bind works_ok (Ev.now _))
  by_cases h0 : (l0.length : Int) > 100
  · exact ev_pos h0 wk
  · refine ev_neg h0 ?_
    by_cases h1 : (l1.length : Int) > 100
    · rw [decide_eq_true h1]
      exact wk
    · rw [decide_eq_false h1]
      refine ev_succ ?_
      simp only [deedboxlaw25_PathBegins.j0]
      have hB := pBehind_ev l1 b1 (by omega)
      refine ev_neg (by decide) (ev_some (pBegins_eq l0 l1 b0 b1) (ev_bind hB (ev_bind (rBegins_ev l0 l1 (by omega)) (ev_neg (by simp) (ev_bind (rBehind_ev l1 b1 (by omega)) (ev_bind (ev_to (Same_ev _ _ ?_) (decide_eq_true rfl)) ?_))))))
      · have hle : ∀ l : List Int, (behind l).length ≤ l.length := by
          intro l
          have h1 : ∀ l, (bump l).length = l.length := by
            refine rev_ind rfl (fun l c _ => ?_)
            rw [bump_snoc]
            simp
          have h2 : ∀ l, (cutFF l).length ≤ l.length := by
            refine rev_ind (Nat.le_refl _) (fun l c ih => ?_)
            by_cases e : c = 255
            · rw [e, cutFF_snoc_ff]
              simp
              omega
            · rw [cutFF_snoc _ _ e]
              exact Nat.le_refl _
          unfold behind
          rw [h1]
          exact h2 l
        have := hle l1
        omega
      · refine ev_succ ?_
        simp only [deedboxlaw25_PathBegins.j1]
        refine ev_neg (by decide) ?_
        have hN := pNext_ev l0 (by omega)
        have hLN : Ev (fun k => deedboxref18_Less.f k l0 (l0 ++ [0])) true := ev_to (Less_ev _ _ (by omega)) (less_next l0)
        have hlen : ((l0 ++ [0]).length : Int) = wrap64 ((l0.length : Int) + 1) := by
          rw [wr (by omega) (by omega)]
          simp
        have hw := begins_within l0 l1 b0 b1
        refine ev_bind (Less_ev l0 l1 (by omega)) ?_
        cases hl : less l0 l1 with
        | true =>
          rw [hl] at hw
          refine ev_pos rfl (ev_bind hN (ev_pos (by rw [hw]; rfl) (ev_bind hLN (ev_pos rfl (ev_pos hlen (ev_bind works_ok (Ev.now _)))))))
        | false =>
          rw [hl] at hw
          refine ev_neg (by decide) ?_
          by_cases he : behind l1 = []
          · rw [he] at hw
            refine ev_pos (by rw [he]; rfl) (ev_bind hN (ev_pos (by rw [hw]; rfl) (ev_bind hLN (ev_pos rfl (ev_pos hlen (ev_bind works_ok (Ev.now _)))))))
          · rw [show (behind l1 == []) = false from beq_eq_false_iff_ne.2 he] at hw
            refine ev_neg (fun h => he (List.eq_nil_of_length_eq_zero (by omega))) (ev_bind (Less_ev l0 (behind l1) (by omega)) (ev_bind hN (ev_pos (by rw [hw]; simp) (ev_bind hLN (ev_pos rfl (ev_pos hlen (ev_bind works_ok (Ev.now _))))))))
end Go.Proofs.Ytagoofdopgopoaa.Pure
