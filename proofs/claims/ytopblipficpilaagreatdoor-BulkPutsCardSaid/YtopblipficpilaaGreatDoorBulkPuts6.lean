/- Closed facts of the types that the walks use. -/
import Derived.Test.YtopblipficpilaaGreatDoorBulkPuts5
import Derived.Test.YtopblipficpilaaGreatDoorProg
import Derived.KernelRfl
namespace Go.Proofs.YtopblipficpilaaGreatDoor.AY
open Go Go.Proofs
set_option maxRecDepth 100000
theorem un_59 : Tryz.prog.underlying 59 = some (.slice 42) := by kernel_rfl
theorem ln_59 (a : Option Addr) (n c : Nat) : lenV Tryz.prog 59 (.slice a n c) = some (.int .i64 n) := ln_eq (P := Tryz.prog) (sz := 1) (by kernel_rfl) a n c
theorem ca_23 : callable Tryz.prog 23 = true := by kernel_rfl
theorem un_42 : Tryz.prog.underlying 42 = some (.slice 5) := by kernel_rfl
theorem ln_42 (a : Option Addr) (n c : Nat) : lenV Tryz.prog 42 (.slice a n c) = some (.int .i64 n) := ln_eq (P := Tryz.prog) (sz := 1) (by kernel_rfl) a n c
theorem ia_59 (b o n c : Nat) (k : IntKind) (x : Int) : indexAddrV Tryz.prog 59 (.slice (some ⟨b, o, none⟩) n c) (.int k x) = if 0 ≤ x ∧ x < n then some (.pointer (some ⟨b, o + x.toNat * 1, none⟩)) else none := ia_eq (P := Tryz.prog) (sz := 1) (by kernel_rfl) b o n c k x
theorem ld_42 (m : Mm) (b o : Nat) : loadV Tryz.prog m 42 (.pointer (some ⟨b, o, none⟩)) = ldS m b o := ld_scalar (P := Tryz.prog) (n := 1) (by kernel_rfl) m b o
theorem ca_25 : callable Tryz.prog 25 = true := by kernel_rfl
theorem ca_26 : callable Tryz.prog 26 = true := by kernel_rfl
theorem ca_27 : callable Tryz.prog 27 = true := by kernel_rfl
theorem ca_28 : callable Tryz.prog 28 = true := by kernel_rfl
theorem ca_29 : callable Tryz.prog 29 = true := by kernel_rfl
theorem un_35 : Tryz.prog.underlying 35 = some (.int .i64) := by kernel_rfl
theorem un_4 : Tryz.prog.underlying 4 = some (.bool) := by kernel_rfl
theorem ca_30 : callable Tryz.prog 30 = true := by kernel_rfl
theorem ca_31 : callable Tryz.prog 31 = true := by kernel_rfl
theorem un_68 : Tryz.prog.underlying 68 = some (.slice 59) := by kernel_rfl
theorem ln_68 (a : Option Addr) (n c : Nat) : lenV Tryz.prog 68 (.slice a n c) = some (.int .i64 n) := ln_eq (P := Tryz.prog) (sz := 1) (by kernel_rfl) a n c
theorem un_3 : Tryz.prog.underlying 3 = some (.int .i64) := by kernel_rfl
theorem ia_68 (b o n c : Nat) (k : IntKind) (x : Int) : indexAddrV Tryz.prog 68 (.slice (some ⟨b, o, none⟩) n c) (.int k x) = if 0 ≤ x ∧ x < n then some (.pointer (some ⟨b, o + x.toNat * 1, none⟩)) else none := ia_eq (P := Tryz.prog) (sz := 1) (by kernel_rfl) b o n c k x
theorem ld_59 (m : Mm) (b o : Nat) : loadV Tryz.prog m 59 (.pointer (some ⟨b, o, none⟩)) = ldS m b o := ld_scalar (P := Tryz.prog) (n := 1) (by kernel_rfl) m b o
theorem un_5 : Tryz.prog.underlying 5 = some (.int .u8) := by kernel_rfl
theorem cv_3_5 (k' : IntKind) (n : Int) : convV Tryz.prog 3 5 (.int k' n) = some (.int .u8 (IntKind.wrap .u8 n)) := cv_int (P := Tryz.prog) (by kernel_rfl) k' n
theorem bs_42_2 (ev : Operand → Option Value) (x0 x1 : Operand) : allocA Tryz.prog ev (.buildSlice 42 2 #[(0, x0), (1, x1)]) = bsR (allocB Tryz.prog ev (.buildSlice 42 2 #[(0, x0), (1, x1)])) 5 2 (evL ev [x0, x1]) := bs_dense (b := 1) (by kernel_rfl) [x0, x1] rfl (Nat.le_of_ble_eq_true rfl) ev rfl
theorem ia_42 (b o n c : Nat) (k : IntKind) (x : Int) : indexAddrV Tryz.prog 42 (.slice (some ⟨b, o, none⟩) n c) (.int k x) = if 0 ≤ x ∧ x < n then some (.pointer (some ⟨b, o + x.toNat * 1, none⟩)) else none := ia_eq (P := Tryz.prog) (sz := 1) (by kernel_rfl) b o n c k x
theorem st_5 (M : Mem) (b o : Nat) (v : Value) : storeE Tryz.prog M 5 (.pointer (some ⟨b, o, none⟩)) v = stV M b o 1 v := st_eq (P := Tryz.prog) (n := 1) (by kernel_rfl) M b o v
theorem un_126 : Tryz.prog.underlying 126 = some (.int .u64) := by kernel_rfl
theorem cv_3_126 (k' : IntKind) (n : Int) : convV Tryz.prog 3 126 (.int k' n) = some (.int .u64 (IntKind.wrap .u64 n)) := cv_int (P := Tryz.prog) (by kernel_rfl) k' n
theorem ca_56 : callable Tryz.prog 56 = true := by kernel_rfl
theorem bs_59_3 (ev : Operand → Option Value) (x0 x1 x2 : Operand) : allocA Tryz.prog ev (.buildSlice 59 3 #[(0, x0), (1, x1), (2, x2)]) = bsR (allocB Tryz.prog ev (.buildSlice 59 3 #[(0, x0), (1, x1), (2, x2)])) 42 3 (evL ev [x0, x1, x2]) := bs_dense (b := 24) (by kernel_rfl) [x0, x1, x2] rfl (Nat.le_of_ble_eq_true rfl) ev rfl
theorem ca_55 : callable Tryz.prog 55 = true := by kernel_rfl
theorem ca_57 : callable Tryz.prog 57 = true := by kernel_rfl
theorem ca_58 : callable Tryz.prog 58 = true := by kernel_rfl
theorem ca_59 : callable Tryz.prog 59 = true := by kernel_rfl
theorem ca_60 : callable Tryz.prog 60 = true := by kernel_rfl
theorem ca_61 : callable Tryz.prog 61 = true := by kernel_rfl
theorem ca_62 : callable Tryz.prog 62 = true := by kernel_rfl
theorem bs_59_1 (ev : Operand → Option Value) (x0 : Operand) : allocA Tryz.prog ev (.buildSlice 59 1 #[(0, x0)]) = bsR (allocB Tryz.prog ev (.buildSlice 59 1 #[(0, x0)])) 42 1 (evL ev [x0]) := bs_dense (b := 24) (by kernel_rfl) [x0] rfl (Nat.le_of_ble_eq_true rfl) ev rfl
theorem ca_63 : callable Tryz.prog 63 = true := by kernel_rfl
theorem ca_64 : callable Tryz.prog 64 = true := by kernel_rfl
theorem al_134 (ev : Operand → Option Value) : allocA Tryz.prog ev (.alloc 134) = some (⟨[.slice none 0 0, .int .i64 0], 134, true⟩, ptrTo) := by rfl
theorem st_134 (M : Mem) (b o : Nat) (v : Value) : storeE Tryz.prog M 134 (.pointer (some ⟨b, o, none⟩)) v = stV M b o 2 v := st_eq (P := Tryz.prog) (n := 2) (by kernel_rfl) M b o v
theorem ld_134 (m : Mm) (b o : Nat) : loadV Tryz.prog m 134 (.pointer (some ⟨b, o, none⟩)) = ldA m b o 2 := ld_agg (P := Tryz.prog) (n := 2) (by kernel_rfl) m b o
theorem fa_134_1 (b o : Nat) : fieldAddrV Tryz.prog 134 (.pointer (some ⟨b, o, none⟩)) 1 = some (.pointer (some ⟨b, o + 1, none⟩)) := fa_eq (P := Tryz.prog) (by kernel_rfl) b o
theorem ld_35 (m : Mm) (b o : Nat) : loadV Tryz.prog m 35 (.pointer (some ⟨b, o, none⟩)) = ldS m b o := ld_scalar (P := Tryz.prog) (n := 1) (by kernel_rfl) m b o
theorem cv_126_3 (k' : IntKind) (n : Int) : convV Tryz.prog 126 3 (.int k' n) = some (.int .i64 (IntKind.wrap .i64 n)) := cv_int (P := Tryz.prog) (by kernel_rfl) k' n
theorem ca_65 : callable Tryz.prog 65 = true := by kernel_rfl
theorem ca_66 : callable Tryz.prog 66 = true := by kernel_rfl
theorem ld_5 (m : Mm) (b o : Nat) : loadV Tryz.prog m 5 (.pointer (some ⟨b, o, none⟩)) = ldS m b o := ld_scalar (P := Tryz.prog) (n := 1) (by kernel_rfl) m b o
theorem bs_68_1 (ev : Operand → Option Value) (x0 : Operand) : allocA Tryz.prog ev (.buildSlice 68 1 #[(0, x0)]) = bsR (allocB Tryz.prog ev (.buildSlice 68 1 #[(0, x0)])) 59 1 (evL ev [x0]) := bs_dense (b := 24) (by kernel_rfl) [x0] rfl (Nat.le_of_ble_eq_true rfl) ev rfl
theorem ms_42 (ev : Operand → Option Value) (l c : Operand) : allocA Tryz.prog ev (.makeSlice 42 l c) = msR Tryz.prog (allocB Tryz.prog ev (.makeSlice 42 l c)) 5 1 (ev l) (ev c) := ms_dense (by kernel_rfl) ev l c
theorem bs_42_1 (ev : Operand → Option Value) (x0 : Operand) : allocA Tryz.prog ev (.buildSlice 42 1 #[(0, x0)]) = bsR (allocB Tryz.prog ev (.buildSlice 42 1 #[(0, x0)])) 5 1 (evL ev [x0]) := bs_dense (b := 1) (by kernel_rfl) [x0] rfl (Nat.le_of_ble_eq_true rfl) ev rfl
theorem cv_126_5 (k' : IntKind) (n : Int) : convV Tryz.prog 126 5 (.int k' n) = some (.int .u8 (IntKind.wrap .u8 n)) := cv_int (P := Tryz.prog) (by kernel_rfl) k' n
theorem ca_114 : callable Tryz.prog 114 = true := by kernel_rfl
theorem ca_113 : callable Tryz.prog 113 = true := by kernel_rfl
theorem fa_204_1 (b o : Nat) : fieldAddrV Tryz.prog 204 (.pointer (some ⟨b, o, none⟩)) 1 = some (.pointer (some ⟨b, o + 1, none⟩)) := fa_eq (P := Tryz.prog) (by kernel_rfl) b o
theorem st_35 (M : Mem) (b o : Nat) (v : Value) : storeE Tryz.prog M 35 (.pointer (some ⟨b, o, none⟩)) v = stV M b o 1 v := st_eq (P := Tryz.prog) (n := 1) (by kernel_rfl) M b o v
theorem ca_115 : callable Tryz.prog 115 = true := by kernel_rfl
theorem fa_204_0 (b o : Nat) : fieldAddrV Tryz.prog 204 (.pointer (some ⟨b, o, none⟩)) 0 = some (.pointer (some ⟨b, o + 0, none⟩)) := fa_eq (P := Tryz.prog) (by kernel_rfl) b o
theorem ca_106 : callable Tryz.prog 106 = true := by kernel_rfl
theorem ca_116 : callable Tryz.prog 116 = true := by kernel_rfl
theorem ca_117 : callable Tryz.prog 117 = true := by kernel_rfl
theorem fa_134_0 (b o : Nat) : fieldAddrV Tryz.prog 134 (.pointer (some ⟨b, o, none⟩)) 0 = some (.pointer (some ⟨b, o + 0, none⟩)) := fa_eq (P := Tryz.prog) (by kernel_rfl) b o
theorem cv_5_126 (k' : IntKind) (n : Int) : convV Tryz.prog 5 126 (.int k' n) = some (.int .u64 (IntKind.wrap .u64 n)) := cv_int (P := Tryz.prog) (by kernel_rfl) k' n
theorem st_42 (M : Mem) (b o : Nat) (v : Value) : storeE Tryz.prog M 42 (.pointer (some ⟨b, o, none⟩)) v = stV M b o 1 v := st_eq (P := Tryz.prog) (n := 1) (by kernel_rfl) M b o v
theorem es_59 : elemSz Tryz.prog 59 = some 1 := by kernel_rfl
theorem es_42 : elemSz Tryz.prog 42 = some 1 := by kernel_rfl
theorem ap_59_59 : AppFacts Tryz.prog 59 59 42 1 24 := appFacts (by kernel_rfl)
theorem ap_42_42 : AppFacts Tryz.prog 42 42 5 1 1 := appFacts (by kernel_rfl)
theorem mixed : Tryz.prog.follows .mixedOrders = true := by kernel_rfl
attribute [go_sem] un_59 ln_59 ca_23 un_42 ln_42 ia_59 ld_42 ca_25 ca_26 ca_27 ca_28 ca_29 un_35 un_4 ca_30 ca_31 un_68 ln_68 un_3 ia_68 ld_59 un_5 cv_3_5 bs_42_2 ia_42 st_5 un_126 cv_3_126 ca_56 bs_59_3 ca_55 ca_57 ca_58 ca_59 ca_60 ca_61 ca_62 bs_59_1 ca_63 ca_64 al_134 st_134 ld_134 fa_134_1 ld_35 cv_126_3 ca_65 ca_66 ld_5 bs_68_1 ms_42 bs_42_1 cv_126_5 ca_114 ca_113 fa_204_1 st_35 ca_115 fa_204_0 ca_106 ca_116 ca_117 fa_134_0 cv_5_126 st_42
end Go.Proofs.YtopblipficpilaaGreatDoor.AY
