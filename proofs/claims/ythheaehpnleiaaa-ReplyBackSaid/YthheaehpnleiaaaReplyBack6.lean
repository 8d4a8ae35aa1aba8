/- The closed run of works: it answers 'true'. -/
import Derived.Test.YthheaehpnleiaaaReplyBack5
import Derived.Test.YthheaehpnleiaaaProg
import Derived.KernelRfl
namespace Go.Proofs.Ythheaehpnleiaaa.AX
open Go Go.Proofs
set_option maxRecDepth 1000000

namespace W11
def tab : List Row := [
  ⟨12, 10, [0, 1, 2, 3, 4, 5, 6, 7, 8, 9, 10, 11, 12, 13, 14, 15, 16, 17, 18, 19, 20, 21, 22, 23, 24, 25, 26, 27], [0, 0, 2, 6, 0, 16, 62, 0, 128, 384, 1022, 0, 2048, 6144, 16382, 0, 32768, 98304, 229376, 524286, 0, 1048576, 3145728, 7340032, 16777214, 33554431, 67108863, 134217727], [], [(5, 3), (9, 3), (9, 6), (13, 3), (13, 6), (13, 10), (17, 3), (17, 6), (17, 10), (17, 14), (21, 3), (21, 6), (21, 10), (21, 14), (21, 19)]⟩,
  ⟨12, 14, [0, 1, 2, 3, 4, 5, 6, 7, 8, 9, 10, 11, 12, 13, 14, 15, 16, 17, 18, 19, 20, 21], [0, 0, 2, 6, 14, 0, 32, 96, 254, 0, 512, 1536, 4094, 0, 8192, 0, 32768, 122880, 262142, 524287, 1048575, 2097151], [], [(6, 4), (10, 4), (10, 8), (14, 4), (14, 8), (14, 12), (16, 4), (16, 8), (16, 12)]⟩,
  ⟨14, 6, [0, 1, 2, 3, 4, 5, 6, 7, 8], [0, 0, 3, 7, 0, 0, 48, 112, 255], [], []⟩,
  ⟨17, 6, [0, 1, 2, 3, 4, 5, 6, 7, 8, 9, 10, 11, 12, 13, 14, 15], [0, 1, 3, 0, 8, 24, 0, 64, 192, 7, 519, 1599, 3647, 8191, 16383, 32767], [], [(5, 10), (8, 10), (8, 12)]⟩,
  ⟨17, 8, [0, 1, 2, 3, 4, 5, 6, 7, 8, 9, 10, 11], [0, 1, 0, 7, 0, 31, 3, 127, 255, 511, 1023, 2047], [], [(2, 1), (4, 1), (4, 3)]⟩,
  ⟨17, 9, [0, 1, 2, 3, 4, 5, 6, 7, 8, 9, 10, 11], [0, 1, 0, 7, 0, 31, 3, 127, 255, 511, 1023, 2047], [], [(2, 1), (4, 1), (4, 3)]⟩,
  ⟨17, 10, [0, 1, 2, 3, 4, 5, 6, 7], [0, 1, 0, 7, 3, 31, 63, 127], [], [(2, 1)]⟩,
  ⟨17, 11, [0, 1, 2, 3, 4, 5, 6, 7, 8, 9], [0, 1, 0, 7, 3, 19, 63, 127, 255, 511], [], [(2, 1)]⟩,
  ⟨17, 16, [0, 1, 2, 3, 4, 5, 6, 7, 8, 9], [0, 1, 3, 0, 11, 0, 59, 127, 0, 511], [], [(2, 4), (2, 6), (3, 1), (5, 1), (5, 4)]⟩,
  ⟨17, 18, [0, 1, 2, 3, 4, 5, 6, 7, 8, 9], [0, 1, 3, 0, 8, 24, 7, 71, 255, 511], [], [(5, 7)]⟩,
  ⟨65, 6, [0, 1, 2, 3, 4, 5, 6, 7, 8], [0, 0, 3, 7, 0, 0, 48, 112, 255], [], []⟩,
  ⟨98, 6, [0, 1, 2, 3, 4, 5, 6, 7, 8], [0, 0, 3, 7, 0, 0, 48, 112, 255], [], []⟩]

def is : Option (Value × Mem) → Bool
  | some (.bool b, _) => b
  | _ => false
theorem is_spec {o : Option (Value × Mem)} (h : is o = true) : ∃ M, o = some (.bool true, M) := by
  unfold is at h
  split at h
  · subst h; exact ⟨_, rfl⟩
  · cases h
theorem run : is ((X.at Try.prog tab (fun _ _ _ => none) 3000).call 11 #[] ⟨0, .nil⟩) = true := by kernel_rfl
theorem good : progOk Try.prog tab = true := by kernel_rfl
theorem mixedO : Try.prog.follows .mixedOrders = true := by kernel_rfl
end W11
theorem works11_spec (M : Mem) : ACall Try.prog 11 #[] M (.bool true) M := by
  obtain ⟨M', h⟩ := W11.is_spec W11.run
  exact ACall.closed ((X.ok W11.mixedO W11.good (ov := fun _ _ _ => none) (fun _ _ _ _ _ h => by cases h) 3000).2.2 _ _ _ _ _ h) rfl M
end Go.Proofs.Ythheaehpnleiaaa.AX

/- Closed facts of the types that the walks use. -/
namespace Go.Proofs.Ythheaehpnleiaaa.AX
open Go Go.Proofs
set_option maxRecDepth 100000
theorem ld_29 (m : Mm) (b o : Nat) : loadV Try.prog m 29 (.pointer (some ⟨b, o, none⟩)) = ldA m b o 17 := ld_agg (P := Try.prog) (n := 17) (by kernel_rfl) m b o
theorem ca_10 : callable Try.prog 10 = true := by kernel_rfl
theorem ca_11 : callable Try.prog 11 = true := by kernel_rfl
theorem ca_12 : callable Try.prog 12 = true := by kernel_rfl
theorem ca_13 : callable Try.prog 13 = true := by kernel_rfl
theorem ca_14 : callable Try.prog 14 = true := by kernel_rfl
theorem un_22 : Try.prog.underlying 22 = some (.int .i64) := by kernel_rfl
theorem ca_15 : callable Try.prog 15 = true := by kernel_rfl
theorem ca_16 : callable Try.prog 16 = true := by kernel_rfl
theorem ln_23 (a : Option Addr) (n c : Nat) : lenV Try.prog 23 (.slice a n c) = some (.int .i64 n) := ln_eq (P := Try.prog) (sz := 1) (by kernel_rfl) a n c
theorem ca_17 : callable Try.prog 17 = true := by kernel_rfl
theorem al_29 (ev : Operand → Option Value) : allocA Try.prog ev (.alloc 29) = some (⟨[.int .i64 0, .int .i64 0, .int .i64 0, .int .i64 0, .slice none 0 0, .slice none 0 0, .slice none 0 0, .int .i64 0, .bool false, .slice none 0 0, .slice none 0 0, .string ⟨#[]⟩, .bool false, .slice none 0 0, .int .i64 0, .int .i64 0, .bool false], 29, true⟩, ptrTo) := by rfl
theorem st_29 (M : Mem) (b o : Nat) (v : Value) : storeE Try.prog M 29 (.pointer (some ⟨b, o, none⟩)) v = stV M b o 17 v := st_eq (P := Try.prog) (n := 17) (by kernel_rfl) M b o v
theorem ca_18 : callable Try.prog 18 = true := by kernel_rfl
theorem ca_19 : callable Try.prog 19 = true := by kernel_rfl
theorem ld_44 (m : Mm) (b o : Nat) : loadV Try.prog m 44 (.pointer (some ⟨b, o, none⟩)) = ldA m b o 3 := ld_agg (P := Try.prog) (n := 3) (by kernel_rfl) m b o
theorem ca_20 : callable Try.prog 20 = true := by kernel_rfl
theorem ca_21 : callable Try.prog 21 = true := by kernel_rfl
theorem ca_22 : callable Try.prog 22 = true := by kernel_rfl
theorem ca_23 : callable Try.prog 23 = true := by kernel_rfl
theorem ca_24 : callable Try.prog 24 = true := by kernel_rfl
theorem al_44 (ev : Operand → Option Value) : allocA Try.prog ev (.alloc 44) = some (⟨[.bool false, .slice none 0 0, .slice none 0 0], 44, true⟩, ptrTo) := by rfl
theorem st_44 (M : Mem) (b o : Nat) (v : Value) : storeE Try.prog M 44 (.pointer (some ⟨b, o, none⟩)) v = stV M b o 3 v := st_eq (P := Try.prog) (n := 3) (by kernel_rfl) M b o v
theorem ca_25 : callable Try.prog 25 = true := by kernel_rfl
theorem ca_26 : callable Try.prog 26 = true := by kernel_rfl
theorem ca_27 : callable Try.prog 27 = true := by kernel_rfl
theorem ca_28 : callable Try.prog 28 = true := by kernel_rfl
theorem ca_29 : callable Try.prog 29 = true := by kernel_rfl
theorem un_3 : Try.prog.underlying 3 = some (.int .i64) := by kernel_rfl
theorem ca_30 : callable Try.prog 30 = true := by kernel_rfl
theorem ca_31 : callable Try.prog 31 = true := by kernel_rfl
theorem ca_32 : callable Try.prog 32 = true := by kernel_rfl
theorem un_4 : Try.prog.underlying 4 = some (.bool) := by kernel_rfl
theorem ca_33 : callable Try.prog 33 = true := by kernel_rfl
theorem ca_34 : callable Try.prog 34 = true := by kernel_rfl
theorem ca_35 : callable Try.prog 35 = true := by kernel_rfl
theorem ca_36 : callable Try.prog 36 = true := by kernel_rfl
theorem fa_44_1 (b o : Nat) : fieldAddrV Try.prog 44 (.pointer (some ⟨b, o, none⟩)) 1 = some (.pointer (some ⟨b, o + 1, none⟩)) := fa_eq (P := Try.prog) (by kernel_rfl) b o
theorem ld_41 (m : Mm) (b o : Nat) : loadV Try.prog m 41 (.pointer (some ⟨b, o, none⟩)) = ldS m b o := ld_scalar (P := Try.prog) (n := 1) (by kernel_rfl) m b o
theorem ln_41 (a : Option Addr) (n c : Nat) : lenV Try.prog 41 (.slice a n c) = some (.int .i64 n) := ln_eq (P := Try.prog) (sz := 2) (by kernel_rfl) a n c
theorem ia_41 (b o n c : Nat) (k : IntKind) (x : Int) : indexAddrV Try.prog 41 (.slice (some ⟨b, o, none⟩) n c) (.int k x) = if 0 ≤ x ∧ x < n then some (.pointer (some ⟨b, o + x.toNat * 2, none⟩)) else none := ia_eq (P := Try.prog) (sz := 2) (by kernel_rfl) b o n c k x
theorem ld_58 (m : Mm) (b o : Nat) : loadV Try.prog m 58 (.pointer (some ⟨b, o, none⟩)) = ldA m b o 2 := ld_agg (P := Try.prog) (n := 2) (by kernel_rfl) m b o
theorem al_58 (ev : Operand → Option Value) : allocA Try.prog ev (.alloc 58) = some (⟨[.slice none 0 0, .slice none 0 0], 58, true⟩, ptrTo) := by rfl
theorem st_58 (M : Mem) (b o : Nat) (v : Value) : storeE Try.prog M 58 (.pointer (some ⟨b, o, none⟩)) v = stV M b o 2 v := st_eq (P := Try.prog) (n := 2) (by kernel_rfl) M b o v
theorem fa_58_0 (b o : Nat) : fieldAddrV Try.prog 58 (.pointer (some ⟨b, o, none⟩)) 0 = some (.pointer (some ⟨b, o + 0, none⟩)) := fa_eq (P := Try.prog) (by kernel_rfl) b o
theorem ld_23 (m : Mm) (b o : Nat) : loadV Try.prog m 23 (.pointer (some ⟨b, o, none⟩)) = ldS m b o := ld_scalar (P := Try.prog) (n := 1) (by kernel_rfl) m b o
theorem fa_58_1 (b o : Nat) : fieldAddrV Try.prog 58 (.pointer (some ⟨b, o, none⟩)) 1 = some (.pointer (some ⟨b, o + 1, none⟩)) := fa_eq (P := Try.prog) (by kernel_rfl) b o
theorem fa_44_2 (b o : Nat) : fieldAddrV Try.prog 44 (.pointer (some ⟨b, o, none⟩)) 2 = some (.pointer (some ⟨b, o + 2, none⟩)) := fa_eq (P := Try.prog) (by kernel_rfl) b o
theorem ld_42 (m : Mm) (b o : Nat) : loadV Try.prog m 42 (.pointer (some ⟨b, o, none⟩)) = ldS m b o := ld_scalar (P := Try.prog) (n := 1) (by kernel_rfl) m b o
theorem ln_42 (a : Option Addr) (n c : Nat) : lenV Try.prog 42 (.slice a n c) = some (.int .i64 n) := ln_eq (P := Try.prog) (sz := 3) (by kernel_rfl) a n c
theorem ia_42 (b o n c : Nat) (k : IntKind) (x : Int) : indexAddrV Try.prog 42 (.slice (some ⟨b, o, none⟩) n c) (.int k x) = if 0 ≤ x ∧ x < n then some (.pointer (some ⟨b, o + x.toNat * 3, none⟩)) else none := ia_eq (P := Try.prog) (sz := 3) (by kernel_rfl) b o n c k x
theorem fa_60_0 (b o : Nat) : fieldAddrV Try.prog 60 (.pointer (some ⟨b, o, none⟩)) 0 = some (.pointer (some ⟨b, o + 0, none⟩)) := fa_eq (P := Try.prog) (by kernel_rfl) b o
theorem fa_29_4 (b o : Nat) : fieldAddrV Try.prog 29 (.pointer (some ⟨b, o, none⟩)) 4 = some (.pointer (some ⟨b, o + 4, none⟩)) := fa_eq (P := Try.prog) (by kernel_rfl) b o
theorem fa_29_5 (b o : Nat) : fieldAddrV Try.prog 29 (.pointer (some ⟨b, o, none⟩)) 5 = some (.pointer (some ⟨b, o + 5, none⟩)) := fa_eq (P := Try.prog) (by kernel_rfl) b o
theorem fa_29_6 (b o : Nat) : fieldAddrV Try.prog 29 (.pointer (some ⟨b, o, none⟩)) 6 = some (.pointer (some ⟨b, o + 6, none⟩)) := fa_eq (P := Try.prog) (by kernel_rfl) b o
theorem fa_29_9 (b o : Nat) : fieldAddrV Try.prog 29 (.pointer (some ⟨b, o, none⟩)) 9 = some (.pointer (some ⟨b, o + 9, none⟩)) := fa_eq (P := Try.prog) (by kernel_rfl) b o
theorem fa_26_0 (b o : Nat) : fieldAddrV Try.prog 26 (.pointer (some ⟨b, o, none⟩)) 0 = some (.pointer (some ⟨b, o + 0, none⟩)) := fa_eq (P := Try.prog) (by kernel_rfl) b o
theorem ld_24 (m : Mm) (b o : Nat) : loadV Try.prog m 24 (.pointer (some ⟨b, o, none⟩)) = ldS m b o := ld_scalar (P := Try.prog) (n := 1) (by kernel_rfl) m b o
theorem ln_24 (a : Option Addr) (n c : Nat) : lenV Try.prog 24 (.slice a n c) = some (.int .i64 n) := ln_eq (P := Try.prog) (sz := 1) (by kernel_rfl) a n c
theorem fa_26_1 (b o : Nat) : fieldAddrV Try.prog 26 (.pointer (some ⟨b, o, none⟩)) 1 = some (.pointer (some ⟨b, o + 1, none⟩)) := fa_eq (P := Try.prog) (by kernel_rfl) b o
theorem fa_26_2 (b o : Nat) : fieldAddrV Try.prog 26 (.pointer (some ⟨b, o, none⟩)) 2 = some (.pointer (some ⟨b, o + 2, none⟩)) := fa_eq (P := Try.prog) (by kernel_rfl) b o
theorem ld_9 (m : Mm) (b o : Nat) : loadV Try.prog m 9 (.pointer (some ⟨b, o, none⟩)) = ldS m b o := ld_scalar (P := Try.prog) (n := 1) (by kernel_rfl) m b o
theorem ln_9 (s : ByteArray) : lenV Try.prog 9 (.string s) = some (.int .i64 s.size) := ls_eq (P := Try.prog) (by kernel_rfl) s
theorem fa_29_10 (b o : Nat) : fieldAddrV Try.prog 29 (.pointer (some ⟨b, o, none⟩)) 10 = some (.pointer (some ⟨b, o + 13, none⟩)) := fa_eq (P := Try.prog) (by kernel_rfl) b o
theorem ld_27 (m : Mm) (b o : Nat) : loadV Try.prog m 27 (.pointer (some ⟨b, o, none⟩)) = ldS m b o := ld_scalar (P := Try.prog) (n := 1) (by kernel_rfl) m b o
theorem ln_27 (a : Option Addr) (n c : Nat) : lenV Try.prog 27 (.slice a n c) = some (.int .i64 n) := ln_eq (P := Try.prog) (sz := 5) (by kernel_rfl) a n c
theorem ia_24 (b o n c : Nat) (k : IntKind) (x : Int) : indexAddrV Try.prog 24 (.slice (some ⟨b, o, none⟩) n c) (.int k x) = if 0 ≤ x ∧ x < n then some (.pointer (some ⟨b, o + x.toNat * 1, none⟩)) else none := ia_eq (P := Try.prog) (sz := 1) (by kernel_rfl) b o n c k x
theorem ia_27 (b o n c : Nat) (k : IntKind) (x : Int) : indexAddrV Try.prog 27 (.slice (some ⟨b, o, none⟩) n c) (.int k x) = if 0 ≤ x ∧ x < n then some (.pointer (some ⟨b, o + x.toNat * 5, none⟩)) else none := ia_eq (P := Try.prog) (sz := 5) (by kernel_rfl) b o n c k x
theorem fa_63_0 (b o : Nat) : fieldAddrV Try.prog 63 (.pointer (some ⟨b, o, none⟩)) 0 = some (.pointer (some ⟨b, o + 0, none⟩)) := fa_eq (P := Try.prog) (by kernel_rfl) b o
theorem un_23 : Try.prog.underlying 23 = some (.slice 5) := by kernel_rfl
theorem bs_23_1 (ev : Operand → Option Value) (x0 : Operand) : allocA Try.prog ev (.buildSlice 23 1 #[(0, x0)]) = bsR (allocB Try.prog ev (.buildSlice 23 1 #[(0, x0)])) 5 1 (evL ev [x0]) := bs_dense (b := 1) (by kernel_rfl) [x0] rfl (Nat.le_of_ble_eq_true rfl) ev rfl
theorem un_24 : Try.prog.underlying 24 = some (.slice 9) := by kernel_rfl
theorem bs_24_2 (ev : Operand → Option Value) (x0 x1 : Operand) : allocA Try.prog ev (.buildSlice 24 2 #[(0, x0), (1, x1)]) = bsR (allocB Try.prog ev (.buildSlice 24 2 #[(0, x0), (1, x1)])) 9 2 (evL ev [x0, x1]) := bs_dense (b := 16) (by kernel_rfl) [x0, x1] rfl (Nat.le_of_ble_eq_true rfl) ev rfl
theorem un_27 : Try.prog.underlying 27 = some (.slice 63) := by kernel_rfl
theorem bs_23_3 (ev : Operand → Option Value) (x0 x1 x2 : Operand) : allocA Try.prog ev (.buildSlice 23 3 #[(0, x0), (1, x1), (2, x2)]) = bsR (allocB Try.prog ev (.buildSlice 23 3 #[(0, x0), (1, x1), (2, x2)])) 5 3 (evL ev [x0, x1, x2]) := bs_dense (b := 1) (by kernel_rfl) [x0, x1, x2] rfl (Nat.le_of_ble_eq_true rfl) ev rfl
theorem fa_29_8 (b o : Nat) : fieldAddrV Try.prog 29 (.pointer (some ⟨b, o, none⟩)) 8 = some (.pointer (some ⟨b, o + 8, none⟩)) := fa_eq (P := Try.prog) (by kernel_rfl) b o
theorem ld_4 (m : Mm) (b o : Nat) : loadV Try.prog m 4 (.pointer (some ⟨b, o, none⟩)) = ldS m b o := ld_scalar (P := Try.prog) (n := 1) (by kernel_rfl) m b o
theorem fa_29_13 (b o : Nat) : fieldAddrV Try.prog 29 (.pointer (some ⟨b, o, none⟩)) 13 = some (.pointer (some ⟨b, o + 16, none⟩)) := fa_eq (P := Try.prog) (by kernel_rfl) b o
theorem fa_26_3 (b o : Nat) : fieldAddrV Try.prog 26 (.pointer (some ⟨b, o, none⟩)) 3 = some (.pointer (some ⟨b, o + 3, none⟩)) := fa_eq (P := Try.prog) (by kernel_rfl) b o
theorem un_79 : Try.prog.underlying 79 = some (.slice 4) := by kernel_rfl
theorem bs_79_3 (ev : Operand → Option Value) (x0 x1 x2 : Operand) : allocA Try.prog ev (.buildSlice 79 3 #[(0, x0), (1, x1), (2, x2)]) = bsR (allocB Try.prog ev (.buildSlice 79 3 #[(0, x0), (1, x1), (2, x2)])) 4 3 (evL ev [x0, x1, x2]) := bs_dense (b := 1) (by kernel_rfl) [x0, x1, x2] rfl (Nat.le_of_ble_eq_true rfl) ev rfl
theorem ca_38 : callable Try.prog 38 = true := by kernel_rfl
theorem un_121 : Try.prog.underlying 121 = some (.slice 23) := by kernel_rfl
theorem bs_121_2 (ev : Operand → Option Value) (x0 x1 : Operand) : allocA Try.prog ev (.buildSlice 121 2 #[(0, x0), (1, x1)]) = bsR (allocB Try.prog ev (.buildSlice 121 2 #[(0, x0), (1, x1)])) 23 2 (evL ev [x0, x1]) := bs_dense (b := 24) (by kernel_rfl) [x0, x1] rfl (Nat.le_of_ble_eq_true rfl) ev rfl
theorem ca_37 : callable Try.prog 37 = true := by kernel_rfl
theorem fa_29_0 (b o : Nat) : fieldAddrV Try.prog 29 (.pointer (some ⟨b, o, none⟩)) 0 = some (.pointer (some ⟨b, o + 0, none⟩)) := fa_eq (P := Try.prog) (by kernel_rfl) b o
theorem ld_22 (m : Mm) (b o : Nat) : loadV Try.prog m 22 (.pointer (some ⟨b, o, none⟩)) = ldS m b o := ld_scalar (P := Try.prog) (n := 1) (by kernel_rfl) m b o
theorem fa_29_1 (b o : Nat) : fieldAddrV Try.prog 29 (.pointer (some ⟨b, o, none⟩)) 1 = some (.pointer (some ⟨b, o + 1, none⟩)) := fa_eq (P := Try.prog) (by kernel_rfl) b o
theorem ld_3 (m : Mm) (b o : Nat) : loadV Try.prog m 3 (.pointer (some ⟨b, o, none⟩)) = ldS m b o := ld_scalar (P := Try.prog) (n := 1) (by kernel_rfl) m b o
theorem fa_29_2 (b o : Nat) : fieldAddrV Try.prog 29 (.pointer (some ⟨b, o, none⟩)) 2 = some (.pointer (some ⟨b, o + 2, none⟩)) := fa_eq (P := Try.prog) (by kernel_rfl) b o
theorem fa_29_3 (b o : Nat) : fieldAddrV Try.prog 29 (.pointer (some ⟨b, o, none⟩)) 3 = some (.pointer (some ⟨b, o + 3, none⟩)) := fa_eq (P := Try.prog) (by kernel_rfl) b o
theorem fa_29_7 (b o : Nat) : fieldAddrV Try.prog 29 (.pointer (some ⟨b, o, none⟩)) 7 = some (.pointer (some ⟨b, o + 7, none⟩)) := fa_eq (P := Try.prog) (by kernel_rfl) b o
theorem fa_29_11 (b o : Nat) : fieldAddrV Try.prog 29 (.pointer (some ⟨b, o, none⟩)) 11 = some (.pointer (some ⟨b, o + 14, none⟩)) := fa_eq (P := Try.prog) (by kernel_rfl) b o
theorem fa_29_12 (b o : Nat) : fieldAddrV Try.prog 29 (.pointer (some ⟨b, o, none⟩)) 12 = some (.pointer (some ⟨b, o + 15, none⟩)) := fa_eq (P := Try.prog) (by kernel_rfl) b o
theorem un_66 : Try.prog.underlying 66 = some (.slice 3) := by kernel_rfl
theorem bs_66_7 (ev : Operand → Option Value) (x0 x1 x2 x3 x4 x5 x6 : Operand) : allocA Try.prog ev (.buildSlice 66 7 #[(0, x0), (1, x1), (2, x2), (3, x3), (4, x4), (5, x5), (6, x6)]) = bsR (allocB Try.prog ev (.buildSlice 66 7 #[(0, x0), (1, x1), (2, x2), (3, x3), (4, x4), (5, x5), (6, x6)])) 3 7 (evL ev [x0, x1, x2, x3, x4, x5, x6]) := bs_dense (b := 8) (by kernel_rfl) [x0, x1, x2, x3, x4, x5, x6] rfl (Nat.le_of_ble_eq_true rfl) ev rfl
theorem ln_66 (a : Option Addr) (n c : Nat) : lenV Try.prog 66 (.slice a n c) = some (.int .i64 n) := ln_eq (P := Try.prog) (sz := 1) (by kernel_rfl) a n c
theorem ia_66 (b o n c : Nat) (k : IntKind) (x : Int) : indexAddrV Try.prog 66 (.slice (some ⟨b, o, none⟩) n c) (.int k x) = if 0 ≤ x ∧ x < n then some (.pointer (some ⟨b, o + x.toNat * 1, none⟩)) else none := ia_eq (P := Try.prog) (sz := 1) (by kernel_rfl) b o n c k x
theorem un_68 : Try.prog.underlying 68 = some (.int .u64) := by kernel_rfl
theorem cv_3_68 (k' : IntKind) (n : Int) : convV Try.prog 3 68 (.int k' n) = some (.int .u64 (IntKind.wrap .u64 n)) := cv_int (P := Try.prog) (by kernel_rfl) k' n
theorem ca_39 : callable Try.prog 39 = true := by kernel_rfl
theorem ca_40 : callable Try.prog 40 = true := by kernel_rfl
theorem ca_41 : callable Try.prog 41 = true := by kernel_rfl
theorem cs_9_23 (ev : Operand → Option Value) (x : Operand) : allocA Try.prog ev (.convert 9 23 x) = match ev x with
  | some (.string s) => some (⟨s.data.toList.map fun b => .int .u8 b.toNat, 5, true⟩, fun id => .slice (some ⟨id, 0, none⟩) s.size unk)
  | _ => none := cs_eq (by kernel_rfl) ev x
theorem un_9 : Try.prog.underlying 9 = some (.string) := by kernel_rfl
theorem bs_121_7 (ev : Operand → Option Value) (x0 x1 x2 x3 x4 x5 x6 : Operand) : allocA Try.prog ev (.buildSlice 121 7 #[(0, x0), (1, x1), (2, x2), (3, x3), (4, x4), (5, x5), (6, x6)]) = bsR (allocB Try.prog ev (.buildSlice 121 7 #[(0, x0), (1, x1), (2, x2), (3, x3), (4, x4), (5, x5), (6, x6)])) 23 7 (evL ev [x0, x1, x2, x3, x4, x5, x6]) := bs_dense (b := 24) (by kernel_rfl) [x0, x1, x2, x3, x4, x5, x6] rfl (Nat.le_of_ble_eq_true rfl) ev rfl
theorem ld_63 (m : Mm) (b o : Nat) : loadV Try.prog m 63 (.pointer (some ⟨b, o, none⟩)) = ldA m b o 5 := ld_agg (P := Try.prog) (n := 5) (by kernel_rfl) m b o
theorem al_63 (ev : Operand → Option Value) : allocA Try.prog ev (.alloc 63) = some (⟨[.string ⟨#[]⟩, .int .i64 0, .int .i64 0, .bool false, .bool false], 63, true⟩, ptrTo) := by rfl
theorem st_63 (M : Mem) (b o : Nat) (v : Value) : storeE Try.prog M 63 (.pointer (some ⟨b, o, none⟩)) v = stV M b o 5 v := st_eq (P := Try.prog) (n := 5) (by kernel_rfl) M b o v
theorem fa_63_1 (b o : Nat) : fieldAddrV Try.prog 63 (.pointer (some ⟨b, o, none⟩)) 1 = some (.pointer (some ⟨b, o + 1, none⟩)) := fa_eq (P := Try.prog) (by kernel_rfl) b o
theorem fa_63_2 (b o : Nat) : fieldAddrV Try.prog 63 (.pointer (some ⟨b, o, none⟩)) 2 = some (.pointer (some ⟨b, o + 2, none⟩)) := fa_eq (P := Try.prog) (by kernel_rfl) b o
theorem fa_63_3 (b o : Nat) : fieldAddrV Try.prog 63 (.pointer (some ⟨b, o, none⟩)) 3 = some (.pointer (some ⟨b, o + 3, none⟩)) := fa_eq (P := Try.prog) (by kernel_rfl) b o
theorem fa_63_4 (b o : Nat) : fieldAddrV Try.prog 63 (.pointer (some ⟨b, o, none⟩)) 4 = some (.pointer (some ⟨b, o + 4, none⟩)) := fa_eq (P := Try.prog) (by kernel_rfl) b o
theorem bs_79_2 (ev : Operand → Option Value) (x0 x1 : Operand) : allocA Try.prog ev (.buildSlice 79 2 #[(0, x0), (1, x1)]) = bsR (allocB Try.prog ev (.buildSlice 79 2 #[(0, x0), (1, x1)])) 4 2 (evL ev [x0, x1]) := bs_dense (b := 1) (by kernel_rfl) [x0, x1] rfl (Nat.le_of_ble_eq_true rfl) ev rfl
theorem bs_121_5 (ev : Operand → Option Value) (x0 x1 x2 x3 x4 : Operand) : allocA Try.prog ev (.buildSlice 121 5 #[(0, x0), (1, x1), (2, x2), (3, x3), (4, x4)]) = bsR (allocB Try.prog ev (.buildSlice 121 5 #[(0, x0), (1, x1), (2, x2), (3, x3), (4, x4)])) 23 5 (evL ev [x0, x1, x2, x3, x4]) := bs_dense (b := 24) (by kernel_rfl) [x0, x1, x2, x3, x4] rfl (Nat.le_of_ble_eq_true rfl) ev rfl
theorem ca_42 : callable Try.prog 42 = true := by kernel_rfl
theorem ca_43 : callable Try.prog 43 = true := by kernel_rfl
theorem ca_44 : callable Try.prog 44 = true := by kernel_rfl
theorem ca_45 : callable Try.prog 45 = true := by kernel_rfl
theorem ia_23 (b o n c : Nat) (k : IntKind) (x : Int) : indexAddrV Try.prog 23 (.slice (some ⟨b, o, none⟩) n c) (.int k x) = if 0 ≤ x ∧ x < n then some (.pointer (some ⟨b, o + x.toNat * 1, none⟩)) else none := ia_eq (P := Try.prog) (sz := 1) (by kernel_rfl) b o n c k x
theorem ld_5 (m : Mm) (b o : Nat) : loadV Try.prog m 5 (.pointer (some ⟨b, o, none⟩)) = ldS m b o := ld_scalar (P := Try.prog) (n := 1) (by kernel_rfl) m b o
theorem un_5 : Try.prog.underlying 5 = some (.int .u8) := by kernel_rfl
theorem ca_46 : callable Try.prog 46 = true := by kernel_rfl
theorem bs_66_2 (ev : Operand → Option Value) (x0 x1 : Operand) : allocA Try.prog ev (.buildSlice 66 2 #[(0, x0), (1, x1)]) = bsR (allocB Try.prog ev (.buildSlice 66 2 #[(0, x0), (1, x1)])) 3 2 (evL ev [x0, x1]) := bs_dense (b := 8) (by kernel_rfl) [x0, x1] rfl (Nat.le_of_ble_eq_true rfl) ev rfl
theorem ca_47 : callable Try.prog 47 = true := by kernel_rfl
theorem ca_48 : callable Try.prog 48 = true := by kernel_rfl
theorem al_77 (ev : Operand → Option Value) : allocA Try.prog ev (.alloc 77) = some (⟨[.pointer none], 77, true⟩, ptrTo) := by rfl
theorem st_77 (M : Mem) (b o : Nat) (v : Value) : storeE Try.prog M 77 (.pointer (some ⟨b, o, none⟩)) v = stV M b o 1 v := st_eq (P := Try.prog) (n := 1) (by kernel_rfl) M b o v
theorem fa_77_0 (b o : Nat) : fieldAddrV Try.prog 77 (.pointer (some ⟨b, o, none⟩)) 0 = some (.pointer (some ⟨b, o + 0, none⟩)) := fa_eq (P := Try.prog) (by kernel_rfl) b o
theorem ld_74 (m : Mm) (b o : Nat) : loadV Try.prog m 74 (.pointer (some ⟨b, o, none⟩)) = ldS m b o := ld_scalar (P := Try.prog) (n := 1) (by kernel_rfl) m b o
theorem ca_49 : callable Try.prog 49 = true := by kernel_rfl
theorem ld_77 (m : Mm) (b o : Nat) : loadV Try.prog m 77 (.pointer (some ⟨b, o, none⟩)) = ldA m b o 1 := ld_agg (P := Try.prog) (n := 1) (by kernel_rfl) m b o
theorem ca_50 : callable Try.prog 50 = true := by kernel_rfl
theorem ia_79 (b o n c : Nat) (k : IntKind) (x : Int) : indexAddrV Try.prog 79 (.slice (some ⟨b, o, none⟩) n c) (.int k x) = if 0 ≤ x ∧ x < n then some (.pointer (some ⟨b, o + x.toNat * 1, none⟩)) else none := ia_eq (P := Try.prog) (sz := 1) (by kernel_rfl) b o n c k x
theorem st_4 (M : Mem) (b o : Nat) (v : Value) : storeE Try.prog M 4 (.pointer (some ⟨b, o, none⟩)) v = stV M b o 1 v := st_eq (P := Try.prog) (n := 1) (by kernel_rfl) M b o v
theorem ca_51 : callable Try.prog 51 = true := by kernel_rfl
theorem st_22 (M : Mem) (b o : Nat) (v : Value) : storeE Try.prog M 22 (.pointer (some ⟨b, o, none⟩)) v = stV M b o 1 v := st_eq (P := Try.prog) (n := 1) (by kernel_rfl) M b o v
theorem st_3 (M : Mem) (b o : Nat) (v : Value) : storeE Try.prog M 3 (.pointer (some ⟨b, o, none⟩)) v = stV M b o 1 v := st_eq (P := Try.prog) (n := 1) (by kernel_rfl) M b o v
theorem ca_52 : callable Try.prog 52 = true := by kernel_rfl
theorem st_23 (M : Mem) (b o : Nat) (v : Value) : storeE Try.prog M 23 (.pointer (some ⟨b, o, none⟩)) v = stV M b o 1 v := st_eq (P := Try.prog) (n := 1) (by kernel_rfl) M b o v
theorem ca_53 : callable Try.prog 53 = true := by kernel_rfl
theorem st_24 (M : Mem) (b o : Nat) (v : Value) : storeE Try.prog M 24 (.pointer (some ⟨b, o, none⟩)) v = stV M b o 1 v := st_eq (P := Try.prog) (n := 1) (by kernel_rfl) M b o v
theorem st_9 (M : Mem) (b o : Nat) (v : Value) : storeE Try.prog M 9 (.pointer (some ⟨b, o, none⟩)) v = stV M b o 1 v := st_eq (P := Try.prog) (n := 1) (by kernel_rfl) M b o v
theorem ca_54 : callable Try.prog 54 = true := by kernel_rfl
theorem ca_55 : callable Try.prog 55 = true := by kernel_rfl
theorem st_27 (M : Mem) (b o : Nat) (v : Value) : storeE Try.prog M 27 (.pointer (some ⟨b, o, none⟩)) v = stV M b o 1 v := st_eq (P := Try.prog) (n := 1) (by kernel_rfl) M b o v
theorem ca_56 : callable Try.prog 56 = true := by kernel_rfl
theorem ca_57 : callable Try.prog 57 = true := by kernel_rfl
theorem al_86 (ev : Operand → Option Value) : allocA Try.prog ev (.alloc 86) = some (⟨[.slice none 0 0, .int .i64 0], 86, true⟩, ptrTo) := by rfl
theorem st_86 (M : Mem) (b o : Nat) (v : Value) : storeE Try.prog M 86 (.pointer (some ⟨b, o, none⟩)) v = stV M b o 2 v := st_eq (P := Try.prog) (n := 2) (by kernel_rfl) M b o v
theorem ld_86 (m : Mm) (b o : Nat) : loadV Try.prog m 86 (.pointer (some ⟨b, o, none⟩)) = ldA m b o 2 := ld_agg (P := Try.prog) (n := 2) (by kernel_rfl) m b o
theorem ca_58 : callable Try.prog 58 = true := by kernel_rfl
theorem ca_59 : callable Try.prog 59 = true := by kernel_rfl
theorem ca_60 : callable Try.prog 60 = true := by kernel_rfl
theorem ca_61 : callable Try.prog 61 = true := by kernel_rfl
theorem ca_62 : callable Try.prog 62 = true := by kernel_rfl
theorem ca_63 : callable Try.prog 63 = true := by kernel_rfl
theorem st_26 (M : Mem) (b o : Nat) (v : Value) : storeE Try.prog M 26 (.pointer (some ⟨b, o, none⟩)) v = stV M b o 4 v := st_eq (P := Try.prog) (n := 4) (by kernel_rfl) M b o v
theorem ld_26 (m : Mm) (b o : Nat) : loadV Try.prog m 26 (.pointer (some ⟨b, o, none⟩)) = ldA m b o 4 := ld_agg (P := Try.prog) (n := 4) (by kernel_rfl) m b o
theorem ca_64 : callable Try.prog 64 = true := by kernel_rfl
theorem ca_65 : callable Try.prog 65 = true := by kernel_rfl
theorem un_41 : Try.prog.underlying 41 = some (.slice 58) := by kernel_rfl
theorem un_42 : Try.prog.underlying 42 = some (.slice 60) := by kernel_rfl
theorem fa_44_0 (b o : Nat) : fieldAddrV Try.prog 44 (.pointer (some ⟨b, o, none⟩)) 0 = some (.pointer (some ⟨b, o + 0, none⟩)) := fa_eq (P := Try.prog) (by kernel_rfl) b o
theorem st_5 (M : Mem) (b o : Nat) (v : Value) : storeE Try.prog M 5 (.pointer (some ⟨b, o, none⟩)) v = stV M b o 1 v := st_eq (P := Try.prog) (n := 1) (by kernel_rfl) M b o v
theorem cv_3_5 (k' : IntKind) (n : Int) : convV Try.prog 3 5 (.int k' n) = some (.int .u8 (IntKind.wrap .u8 n)) := cv_int (P := Try.prog) (by kernel_rfl) k' n
theorem bs_23_2 (ev : Operand → Option Value) (x0 x1 : Operand) : allocA Try.prog ev (.buildSlice 23 2 #[(0, x0), (1, x1)]) = bsR (allocB Try.prog ev (.buildSlice 23 2 #[(0, x0), (1, x1)])) 5 2 (evL ev [x0, x1]) := bs_dense (b := 1) (by kernel_rfl) [x0, x1] rfl (Nat.le_of_ble_eq_true rfl) ev rfl
theorem bs_121_4 (ev : Operand → Option Value) (x0 x1 x2 x3 : Operand) : allocA Try.prog ev (.buildSlice 121 4 #[(0, x0), (1, x1), (2, x2), (3, x3)]) = bsR (allocB Try.prog ev (.buildSlice 121 4 #[(0, x0), (1, x1), (2, x2), (3, x3)])) 23 4 (evL ev [x0, x1, x2, x3]) := bs_dense (b := 24) (by kernel_rfl) [x0, x1, x2, x3] rfl (Nat.le_of_ble_eq_true rfl) ev rfl
theorem ld_60 (m : Mm) (b o : Nat) : loadV Try.prog m 60 (.pointer (some ⟨b, o, none⟩)) = ldA m b o 3 := ld_agg (P := Try.prog) (n := 3) (by kernel_rfl) m b o
theorem al_60 (ev : Operand → Option Value) : allocA Try.prog ev (.alloc 60) = some (⟨[.slice none 0 0, .int .i64 0, .int .i64 0], 60, true⟩, ptrTo) := by rfl
theorem st_60 (M : Mem) (b o : Nat) (v : Value) : storeE Try.prog M 60 (.pointer (some ⟨b, o, none⟩)) v = stV M b o 3 v := st_eq (P := Try.prog) (n := 3) (by kernel_rfl) M b o v
theorem fa_60_1 (b o : Nat) : fieldAddrV Try.prog 60 (.pointer (some ⟨b, o, none⟩)) 1 = some (.pointer (some ⟨b, o + 1, none⟩)) := fa_eq (P := Try.prog) (by kernel_rfl) b o
theorem fa_60_2 (b o : Nat) : fieldAddrV Try.prog 60 (.pointer (some ⟨b, o, none⟩)) 2 = some (.pointer (some ⟨b, o + 2, none⟩)) := fa_eq (P := Try.prog) (by kernel_rfl) b o
theorem ms_23 (ev : Operand → Option Value) (l c : Operand) : allocA Try.prog ev (.makeSlice 23 l c) = msR Try.prog (allocB Try.prog ev (.makeSlice 23 l c)) 5 1 (ev l) (ev c) := ms_dense (by kernel_rfl) ev l c
theorem ca_66 : callable Try.prog 66 = true := by kernel_rfl
theorem cv_68_3 (k' : IntKind) (n : Int) : convV Try.prog 68 3 (.int k' n) = some (.int .i64 (IntKind.wrap .i64 n)) := cv_int (P := Try.prog) (by kernel_rfl) k' n
theorem st_41 (M : Mem) (b o : Nat) (v : Value) : storeE Try.prog M 41 (.pointer (some ⟨b, o, none⟩)) v = stV M b o 1 v := st_eq (P := Try.prog) (n := 1) (by kernel_rfl) M b o v
theorem st_42 (M : Mem) (b o : Nat) (v : Value) : storeE Try.prog M 42 (.pointer (some ⟨b, o, none⟩)) v = stV M b o 1 v := st_eq (P := Try.prog) (n := 1) (by kernel_rfl) M b o v
theorem ca_68 : callable Try.prog 68 = true := by kernel_rfl
theorem ca_67 : callable Try.prog 67 = true := by kernel_rfl
theorem ca_69 : callable Try.prog 69 = true := by kernel_rfl
theorem fa_86_1 (b o : Nat) : fieldAddrV Try.prog 86 (.pointer (some ⟨b, o, none⟩)) 1 = some (.pointer (some ⟨b, o + 1, none⟩)) := fa_eq (P := Try.prog) (by kernel_rfl) b o
theorem ca_70 : callable Try.prog 70 = true := by kernel_rfl
theorem ca_71 : callable Try.prog 71 = true := by kernel_rfl
theorem fa_86_0 (b o : Nat) : fieldAddrV Try.prog 86 (.pointer (some ⟨b, o, none⟩)) 0 = some (.pointer (some ⟨b, o + 0, none⟩)) := fa_eq (P := Try.prog) (by kernel_rfl) b o
theorem ca_72 : callable Try.prog 72 = true := by kernel_rfl
theorem ca_74 : callable Try.prog 74 = true := by kernel_rfl
theorem ca_76 : callable Try.prog 76 = true := by kernel_rfl
theorem ca_77 : callable Try.prog 77 = true := by kernel_rfl
theorem ca_78 : callable Try.prog 78 = true := by kernel_rfl
theorem ca_80 : callable Try.prog 80 = true := by kernel_rfl
theorem ca_82 : callable Try.prog 82 = true := by kernel_rfl
theorem ca_83 : callable Try.prog 83 = true := by kernel_rfl
theorem ca_84 : callable Try.prog 84 = true := by kernel_rfl
theorem ca_85 : callable Try.prog 85 = true := by kernel_rfl
theorem ca_86 : callable Try.prog 86 = true := by kernel_rfl
theorem ca_87 : callable Try.prog 87 = true := by kernel_rfl
theorem ca_88 : callable Try.prog 88 = true := by kernel_rfl
theorem ca_89 : callable Try.prog 89 = true := by kernel_rfl
theorem ln_121 (a : Option Addr) (n c : Nat) : lenV Try.prog 121 (.slice a n c) = some (.int .i64 n) := ln_eq (P := Try.prog) (sz := 1) (by kernel_rfl) a n c
theorem ia_121 (b o n c : Nat) (k : IntKind) (x : Int) : indexAddrV Try.prog 121 (.slice (some ⟨b, o, none⟩) n c) (.int k x) = if 0 ≤ x ∧ x < n then some (.pointer (some ⟨b, o + x.toNat * 1, none⟩)) else none := ia_eq (P := Try.prog) (sz := 1) (by kernel_rfl) b o n c k x
theorem ln_79 (a : Option Addr) (n c : Nat) : lenV Try.prog 79 (.slice a n c) = some (.int .i64 n) := ln_eq (P := Try.prog) (sz := 1) (by kernel_rfl) a n c
theorem cv_68_5 (k' : IntKind) (n : Int) : convV Try.prog 68 5 (.int k' n) = some (.int .u8 (IntKind.wrap .u8 n)) := cv_int (P := Try.prog) (by kernel_rfl) k' n
theorem bs_121_1 (ev : Operand → Option Value) (x0 : Operand) : allocA Try.prog ev (.buildSlice 121 1 #[(0, x0)]) = bsR (allocB Try.prog ev (.buildSlice 121 1 #[(0, x0)])) 23 1 (evL ev [x0]) := bs_dense (b := 24) (by kernel_rfl) [x0] rfl (Nat.le_of_ble_eq_true rfl) ev rfl
theorem ca_90 : callable Try.prog 90 = true := by kernel_rfl
theorem ca_91 : callable Try.prog 91 = true := by kernel_rfl
theorem bs_79_1 (ev : Operand → Option Value) (x0 : Operand) : allocA Try.prog ev (.buildSlice 79 1 #[(0, x0)]) = bsR (allocB Try.prog ev (.buildSlice 79 1 #[(0, x0)])) 4 1 (evL ev [x0]) := bs_dense (b := 1) (by kernel_rfl) [x0] rfl (Nat.le_of_ble_eq_true rfl) ev rfl
theorem ca_92 : callable Try.prog 92 = true := by kernel_rfl
theorem bs_24_1 (ev : Operand → Option Value) (x0 : Operand) : allocA Try.prog ev (.buildSlice 24 1 #[(0, x0)]) = bsR (allocB Try.prog ev (.buildSlice 24 1 #[(0, x0)])) 9 1 (evL ev [x0]) := bs_dense (b := 16) (by kernel_rfl) [x0] rfl (Nat.le_of_ble_eq_true rfl) ev rfl
theorem fa_123_1 (b o : Nat) : fieldAddrV Try.prog 123 (.pointer (some ⟨b, o, none⟩)) 1 = some (.pointer (some ⟨b, o + 1, none⟩)) := fa_eq (P := Try.prog) (by kernel_rfl) b o
theorem fa_123_0 (b o : Nat) : fieldAddrV Try.prog 123 (.pointer (some ⟨b, o, none⟩)) 0 = some (.pointer (some ⟨b, o + 0, none⟩)) := fa_eq (P := Try.prog) (by kernel_rfl) b o
theorem ca_93 : callable Try.prog 93 = true := by kernel_rfl
theorem ca_94 : callable Try.prog 94 = true := by kernel_rfl
theorem ca_95 : callable Try.prog 95 = true := by kernel_rfl
theorem bs_66_1 (ev : Operand → Option Value) (x0 : Operand) : allocA Try.prog ev (.buildSlice 66 1 #[(0, x0)]) = bsR (allocB Try.prog ev (.buildSlice 66 1 #[(0, x0)])) 3 1 (evL ev [x0]) := bs_dense (b := 8) (by kernel_rfl) [x0] rfl (Nat.le_of_ble_eq_true rfl) ev rfl
theorem ca_96 : callable Try.prog 96 = true := by kernel_rfl
theorem ca_97 : callable Try.prog 97 = true := by kernel_rfl
theorem ca_98 : callable Try.prog 98 = true := by kernel_rfl
theorem ca_99 : callable Try.prog 99 = true := by kernel_rfl
theorem cv_5_68 (k' : IntKind) (n : Int) : convV Try.prog 5 68 (.int k' n) = some (.int .u64 (IntKind.wrap .u64 n)) := cv_int (P := Try.prog) (by kernel_rfl) k' n
theorem ca_100 : callable Try.prog 100 = true := by kernel_rfl
theorem ca_101 : callable Try.prog 101 = true := by kernel_rfl
theorem ca_103 : callable Try.prog 103 = true := by kernel_rfl
theorem un_137 : Try.prog.underlying 137 = some (.int .u64) := by kernel_rfl
theorem cv_3_137 (k' : IntKind) (n : Int) : convV Try.prog 3 137 (.int k' n) = some (.int .u64 (IntKind.wrap .u64 n)) := cv_int (P := Try.prog) (by kernel_rfl) k' n
theorem cv_137_3 (k' : IntKind) (n : Int) : convV Try.prog 137 3 (.int k' n) = some (.int .i64 (IntKind.wrap .i64 n)) := cv_int (P := Try.prog) (by kernel_rfl) k' n
theorem ld_108 (m : Mm) (b o : Nat) : loadV Try.prog m 108 (.pointer (some ⟨b, o, none⟩)) = ldS m b o := ld_scalar (P := Try.prog) (n := 1) (by kernel_rfl) m b o
theorem ld_110 (m : Mm) (b o : Nat) : loadV Try.prog m 110 (.pointer (some ⟨b, o, none⟩)) = ldS m b o := ld_scalar (P := Try.prog) (n := 1) (by kernel_rfl) m b o
theorem es_23 : elemSz Try.prog 23 = some 1 := by kernel_rfl
theorem es_24 : elemSz Try.prog 24 = some 1 := by kernel_rfl
theorem es_27 : elemSz Try.prog 27 = some 5 := by kernel_rfl
theorem ap_23_23 : AppFacts Try.prog 23 23 5 1 1 := appFacts (by kernel_rfl)
theorem es_66 : elemSz Try.prog 66 = some 1 := by kernel_rfl
theorem ap_27_27 : AppFacts Try.prog 27 27 63 5 40 := appFacts (by kernel_rfl)
theorem es_121 : elemSz Try.prog 121 = some 1 := by kernel_rfl
theorem es_79 : elemSz Try.prog 79 = some 1 := by kernel_rfl
theorem ap_79_79 : AppFacts Try.prog 79 79 4 1 1 := appFacts (by kernel_rfl)
theorem ap_24_24 : AppFacts Try.prog 24 24 9 1 16 := appFacts (by kernel_rfl)
attribute [go_sem] ld_29 ca_10 ca_11 ca_12 ca_13 ca_14 un_22 ca_15 ca_16 ln_23 ca_17 al_29 st_29 ca_18 ca_19 ld_44 ca_20 ca_21 ca_22 ca_23 ca_24 al_44 st_44 ca_25 ca_26 ca_27 ca_28 ca_29 un_3 ca_30 ca_31 ca_32 un_4 ca_33 ca_34 ca_35 ca_36 fa_44_1 ld_41 ln_41 ia_41 ld_58 al_58 st_58 fa_58_0 ld_23 fa_58_1 fa_44_2 ld_42 ln_42 ia_42 fa_60_0 fa_29_4 fa_29_5 fa_29_6 fa_29_9 fa_26_0 ld_24 ln_24 fa_26_1 fa_26_2 ld_9 ln_9 fa_29_10 ld_27 ln_27 ia_24 ia_27 fa_63_0 un_23 bs_23_1 un_24 bs_24_2 un_27 bs_23_3 fa_29_8 ld_4 fa_29_13 fa_26_3 un_79 bs_79_3 ca_38 un_121 bs_121_2 ca_37 fa_29_0 ld_22 fa_29_1 ld_3 fa_29_2 fa_29_3 fa_29_7 fa_29_11 fa_29_12 un_66 bs_66_7 ln_66 ia_66 un_68 cv_3_68 ca_39 ca_40 ca_41 cs_9_23 un_9 bs_121_7 ld_63 al_63 st_63 fa_63_1 fa_63_2 fa_63_3 fa_63_4 bs_79_2 bs_121_5 ca_42 ca_43 ca_44 ca_45 ia_23 ld_5 un_5 ca_46 bs_66_2 ca_47 ca_48 al_77 st_77 fa_77_0 ld_74 ca_49 ld_77 ca_50 ia_79 st_4 ca_51 st_22 st_3 ca_52 st_23 ca_53 st_24 st_9 ca_54 ca_55 st_27 ca_56 ca_57 al_86 st_86 ld_86 ca_58 ca_59 ca_60 ca_61 ca_62 ca_63 st_26 ld_26 ca_64 ca_65 un_41 un_42 fa_44_0 st_5 cv_3_5 bs_23_2 bs_121_4 ld_60 al_60 st_60 fa_60_1 fa_60_2 ms_23 ca_66 cv_68_3 st_41 st_42 ca_68 ca_67 ca_69 fa_86_1 ca_70 ca_71 fa_86_0 ca_72 ca_74 ca_76 ca_77 ca_78 ca_80 ca_82 ca_83 ca_84 ca_85 ca_86 ca_87 ca_88 ca_89 ln_121 ia_121 ln_79 cv_68_5 bs_121_1 ca_90 ca_91 bs_79_1 ca_92 bs_24_1 fa_123_1 fa_123_0 ca_93 ca_94 ca_95 bs_66_1 ca_96 ca_97 ca_98 ca_99 cv_5_68 ca_100 ca_101 ca_103 un_137 cv_3_137 cv_137_3 ld_108 ld_110
end Go.Proofs.Ythheaehpnleiaaa.AX
