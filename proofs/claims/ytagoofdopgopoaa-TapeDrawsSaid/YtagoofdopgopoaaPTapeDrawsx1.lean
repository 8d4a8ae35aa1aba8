/- Written by a program of the prover: the functions that a law reaches, as plain Lean functions, each with the proof that the call of the machine comes to it. -/
import Derived.Test.YtagoofdopgopoaaPTapeDrawsx0
namespace Go.Proofs.Ytagoofdopgopoaa.PTapeDraws
open Go.RowKit Go.Proofs.YtagoofdopgopoaaW.PrintWords Go.Proofs.YtagoofdopgopoaaW.PrintLast Go.Proofs.YtagoofdopgopoaaW.PrintMore
attribute [local go_sem] max2_int min2_int max_two min_two max_three min_three max_four min_four   -- for this text's walks alone
set_option linter.unusedVariables false
set_option linter.unusedSimpArgs false

/-! ### deedboxlaw01_Short: function 14 -/
def deedboxlaw01_Short.l0 : Nat → List (List Int) → Int → Int → Option (Int)
  | 0, _, _, _ => none
  | k + 1, x0, x3, x4 => if x4 < (x0.length : Int) then (if 0 ≤ x4 then (if ((rd_L1 x0 x4).length : Int) > 3000 then (some 1) else (if (wrap64 (x3 + ((rd_L1 x0 x4).length : Int))) > 6000 then (some 1) else (deedboxlaw01_Short.l0 k x0 (wrap64 (x3 + ((rd_L1 x0 x4).length : Int))) (wrap64 (x4 + 1))))) else (none)) else (some 0)
def deedboxlaw01_Short.f (k : Nat) (l0 : List (List Int)) : Option (Int) := if (l0.length : Int) > 40 then (some 1) else (deedboxlaw01_Short.l0 k l0 0 0)
theorem deedboxlaw01_Short.mono_l : ∀ k, (∀ y0 y1 y2, LeO (deedboxlaw01_Short.l0 k y0 y1 y2) (deedboxlaw01_Short.l0 (k + 1) y0 y1 y2))
  | 0 => fun _ _ _ r h => by simp [deedboxlaw01_Short.l0] at h
  | k + 1 => by
    have ih0 := deedboxlaw01_Short.mono_l k
    · intro y0 y1 y2
      unfold deedboxlaw01_Short.l0
      repeat' first
      | (with_reducible exact ih0 _ _ _)
      | (with_reducible exact LeO.refl _)
      | (with_reducible exact LeO.none _)
      | (with_reducible refine LeO.ite ?_ ?_)
      | (with_reducible refine LeO.bind ?_ (fun _ => ?_))
      | exact ih0 _ _ _
      | exact LeO.none _
      | refine LeO.ite ?_ ?_
      | refine LeO.bind ?_ (fun _ => ?_)
theorem deedboxlaw01_Short.mono : ∀ a0 k, LeO (deedboxlaw01_Short.f k a0) (deedboxlaw01_Short.f (k + 1) a0) := by
  intro a0 k
  have ih0 := deedboxlaw01_Short.mono_l k
  unfold deedboxlaw01_Short.f
  repeat' first
      | (with_reducible exact ih0 _ _ _)
      | (with_reducible exact LeO.refl _)
      | (with_reducible exact LeO.none _)
      | (with_reducible refine LeO.ite ?_ ?_)
      | (with_reducible refine LeO.bind ?_ (fun _ => ?_))
      | exact ih0 _ _ _
      | exact LeO.none _
      | refine LeO.ite ?_ ?_
      | refine LeO.bind ?_ (fun _ => ?_)
set_option maxHeartbeats 8000000 in
set_option maxRecDepth 100000 in
theorem deedboxlaw01_Short.calls (k : Nat) (A0 : Option Addr) (c0 : Nat) (l0 : List (List Int)) (r : Int) (w : World) (hr0 : Kd.C (Kd.slice 5 (Kd.int .u8)) w A0 l0.length l0) (hc0 : l0.length ≤ c0) (h : deedboxlaw01_Short.f k l0 = some r) :
    Calls Try.prog 14 #[.slice A0 l0.length c0] w fun e w' => e = .returned (.int .i64 r) ∧ Drawn0 w w' := by
  have HR0 := Aside0.mk hr0
  have HC0 := Aside0.mk hc0
  clear hr0 hc0
  have H : (if (l0.length : Int) > 40 then (some 1) else (deedboxlaw01_Short.l0 k l0 0 0)) = some r := h
  clear h
  by_cases c2 : (l0.length : Int) > 40
  · rw [if_pos c2] at H
    have c2b0 : decide (40 < (l0.length : Int)) = true := decide_eq_true c2
    have c2b1 : decide (40 < l0.length) = true := decide_eq_true (by omega)
    clear c2
    obtain rfl := Option.some.inj H
    go_enter Try.func14, Try.ntmps14
    go_wp2
    go_ret
    exact ⟨by first | rfl | (simp; done) | (simp [*]; done), by repeat (first | exact Drawn0.refl _ | apply Drawn0.step)⟩
  · rw [if_neg c2] at H
    have c2b0 : decide (40 < (l0.length : Int)) = false := decide_eq_false c2
    have c2b1 : decide (40 < l0.length) = false := decide_eq_false (by omega)
    clear c2
    have H' := Aside0.mk H
    clear H
    go_enter Try.func14, Try.ntmps14
    go_wp2
    go_loopg [3, 4] k (fun kq v3 v4 w' => ∃ (x3_1 : Int) (x4_1 : Int), v3 = .int .i64 x3_1 ∧ v4 = .int .i64 x4_1 ∧ Aside0 (deedboxlaw01_Short.l0 kq l0 x3_1 x4_1 = some r) ∧ Aside0 (kq ≤ k) ∧ Drawn0 w w')
    case atStart => exact ⟨(0), (0), (by first | rfl | (simp; done) | (simp [*]; done)), (by first | rfl | (simp; done) | (simp [*]; done)), H', ⟨Nat.le_refl _⟩, by repeat (first | exact Drawn0.refl _ | apply Drawn0.step)⟩
    case round =>
      clear H'
      try clear c1
      try clear c2
      try clear c2b0
      try clear c2b1
      try clear p2
      obtain ⟨x3_1, x4_1, rfl, rfl, HA, HK1, ⟨m1, rfl⟩⟩ := hrel
      cases gk with
      | zero => exact absurd HA.out (by simp [deedboxlaw01_Short.l0])
      | succ k1 =>
        have H := HA.out
        clear HA
        simp only [deedboxlaw01_Short.l0] at H
        by_cases c3 : x4_1 < (l0.length : Int)
        · rw [if_pos c3] at H
          have c3b0 : decide (x4_1 < (l0.length : Int)) = true := decide_eq_true c3
          clear c3
          by_cases c4 : 0 ≤ x4_1
          · rw [if_pos c4] at H
            have c4b0 : decide (0 ≤ x4_1) = true := decide_eq_true c4
            clear c4
            by_cases c5 : ((rd_L1 l0 x4_1).length : Int) > 3000
            · rw [if_pos c5] at H
              have c5b0 : decide (3000 < ((rd_L1 l0 x4_1).length : Int)) = true := decide_eq_true c5
              have c5b1 : decide (3000 < (rd_L1 l0 x4_1).length) = true := decide_eq_true (by omega)
              clear c5
              obtain rfl := Option.some.inj H
              have p101 : 0 ≤ (x4_1 : Int) := of_decide_eq_true (by first | (with_reducible assumption) | assumption)
              have q101 : x4_1 < (l0.length : Int) := of_decide_eq_true (by first | (with_reducible assumption) | assumption)
              obtain ⟨ad101, A101_0, c101_0, e101, hx101_0, hl101_0, hi101_0⟩ := at_L1 HR0.out x4_1 p101 q101
              cases e101
              have HR101_0 := Aside0.mk hi101_0
              have HC101_0 := Aside0.mk hl101_0
              clear hi101_0 hl101_0
              replace p101 := eq_true p101
              replace q101 := eq_true q101
              go_wp2
              go_ret
              exact ⟨by first | rfl | (simp; done) | (simp [*]; done), by repeat (first | exact Drawn0.refl _ | apply Drawn0.step)⟩
            · rw [if_neg c5] at H
              have c5b0 : decide (3000 < ((rd_L1 l0 x4_1).length : Int)) = false := decide_eq_false c5
              have c5b1 : decide (3000 < (rd_L1 l0 x4_1).length) = false := decide_eq_false (by omega)
              clear c5
              by_cases c6 : (wrap64 (x3_1 + ((rd_L1 l0 x4_1).length : Int))) > 6000
              · rw [if_pos c6] at H
                have c6b0 : decide (6000 < (wrap64 (x3_1 + ((rd_L1 l0 x4_1).length : Int)))) = true := decide_eq_true c6
                clear c6
                obtain rfl := Option.some.inj H
                have p101 : 0 ≤ (x4_1 : Int) := of_decide_eq_true (by first | (with_reducible assumption) | assumption)
                have q101 : x4_1 < (l0.length : Int) := of_decide_eq_true (by first | (with_reducible assumption) | assumption)
                obtain ⟨ad101, A101_0, c101_0, e101, hx101_0, hl101_0, hi101_0⟩ := at_L1 HR0.out x4_1 p101 q101
                cases e101
                have HR101_0 := Aside0.mk hi101_0
                have HC101_0 := Aside0.mk hl101_0
                clear hi101_0 hl101_0
                replace p101 := eq_true p101
                replace q101 := eq_true q101
                have p102 : 0 ≤ (x4_1 : Int) := of_decide_eq_true (by first | (with_reducible assumption) | assumption)
                have q102 : x4_1 < (l0.length : Int) := of_decide_eq_true (by first | (with_reducible assumption) | assumption)
                obtain ⟨ad102, A102_0, c102_0, e102, hx102_0, hl102_0, hi102_0⟩ := at_L1 HR0.out x4_1 p102 q102
                obtain rfl : ad101 = ad102 := (by injection e102)
                have HR102_0 := Aside0.mk hi102_0
                have HC102_0 := Aside0.mk hl102_0
                clear hi102_0 hl102_0
                replace p102 := eq_true p102
                replace q102 := eq_true q102
                have ea_ := Option.some.inj (hx101_0.symm.trans hx102_0)
                injection ea_ with ea_ en_ ec_
                subst ea_
                subst ec_
                clear en_
                go_wp2
                go_ret
                exact ⟨by first | rfl | (simp; done) | (simp [*]; done), by repeat (first | exact Drawn0.refl _ | apply Drawn0.step)⟩
              · rw [if_neg c6] at H
                have c6b0 : decide (6000 < (wrap64 (x3_1 + ((rd_L1 l0 x4_1).length : Int)))) = false := decide_eq_false c6
                clear c6
                have H' := Aside0.mk H
                clear H
                have p101 : 0 ≤ (x4_1 : Int) := of_decide_eq_true (by first | (with_reducible assumption) | assumption)
                have q101 : x4_1 < (l0.length : Int) := of_decide_eq_true (by first | (with_reducible assumption) | assumption)
                obtain ⟨ad101, A101_0, c101_0, e101, hx101_0, hl101_0, hi101_0⟩ := at_L1 HR0.out x4_1 p101 q101
                cases e101
                have HR101_0 := Aside0.mk hi101_0
                have HC101_0 := Aside0.mk hl101_0
                clear hi101_0 hl101_0
                replace p101 := eq_true p101
                replace q101 := eq_true q101
                have p102 : 0 ≤ (x4_1 : Int) := of_decide_eq_true (by first | (with_reducible assumption) | assumption)
                have q102 : x4_1 < (l0.length : Int) := of_decide_eq_true (by first | (with_reducible assumption) | assumption)
                obtain ⟨ad102, A102_0, c102_0, e102, hx102_0, hl102_0, hi102_0⟩ := at_L1 HR0.out x4_1 p102 q102
                obtain rfl : ad101 = ad102 := (by injection e102)
                have HR102_0 := Aside0.mk hi102_0
                have HC102_0 := Aside0.mk hl102_0
                clear hi102_0 hl102_0
                replace p102 := eq_true p102
                replace q102 := eq_true q102
                have ea_ := Option.some.inj (hx101_0.symm.trans hx102_0)
                injection ea_ with ea_ en_ ec_
                subst ea_
                subst ec_
                clear en_
                go_wp2
                go_roundg k1
                case measure => have := HK1.out; omega
                case rel => exact ⟨(wrap64 (x3_1 + ((rd_L1 l0 x4_1).length : Int))), (wrap64 (x4_1 + 1)), (by first | rfl | (simp; done) | (simp [*]; done)), (by first | rfl | (simp; done) | (simp [*]; done)), H', ⟨by have := HK1.out; omega⟩, by repeat (first | exact Drawn0.refl _ | apply Drawn0.step)⟩
          · rw [if_neg c4] at H
            exact absurd H (by simp)
        · rw [if_neg c3] at H
          have c3b0 : decide (x4_1 < (l0.length : Int)) = false := decide_eq_false c3
          clear c3
          obtain rfl := Option.some.inj H
          go_wp2
          go_ret
          exact ⟨by first | rfl | (simp; done) | (simp [*]; done), by repeat (first | exact Drawn0.refl _ | apply Drawn0.step)⟩

/-- A block of keys, or of a key's bytes. -/
def TyT (W : World) (k : Nat) : Prop := ∃ cs t fr, W.heap[k]? = some (.cells cs t fr) ∧ (t = 31 ∨ t = 5)
theorem TyT.lt {W : World} {k : Nat} (h : TyT W k) : k < W.heap.size := by
  obtain ⟨cs, t, fr, h, _⟩ := h
  exact (Array.getElem?_eq_some_iff.1 h).1
/-- A tape at block g of W: its keys, and how many were drawn. The keys lie in blocks of keys and of bytes. -/
def IsS85 (w0 W : World) (g : Nat) (f0 : List (List Int)) (f1 : Int) : Prop := ∃ A0 c0, W.heap[g]? = some (.cells #[.slice A0 f0.length c0, .int .i64 f1] 85 (0, 0)) ∧ w0.heap.size ≤ g ∧ (f0.length ≤ c0 ∧ Kd.F (Kd.slice 5 (Kd.int .u8)) W (TyT W) A0 f0.length f0)
section
variable {w0 W W1 : World} {g : Nat} {f0 : List (List Int)} {f1 : Int}
theorem F_keys {A : Option Addr} {n : Nat} {xs : List (List Int)} (h : Kd.F (Kd.slice 5 (Kd.int .u8)) W (TyT W) A n xs) (hm : ∀ k, TyT W k → W1.heap[k]? = W.heap[k]?) : Kd.F (Kd.slice 5 (Kd.int .u8)) W1 (TyT W1) A n xs :=
  Kd.F_mono (Kd.F_step h (fun k hk _ => hm k hk)) (fun k hk => by
    obtain ⟨cs, t, fr, e, ht⟩ := hk
    exact ⟨cs, t, fr, (hm k ⟨cs, t, fr, e, ht⟩).trans e, ht⟩)
theorem IsS85.move (h : IsS85 w0 W g f0 f1) (hg1 : W1.heap[g]? = W.heap[g]?) (hm : ∀ k, TyT W k → W1.heap[k]? = W.heap[k]?) : IsS85 w0 W1 g f0 f1 := by
  obtain ⟨A0, c0, hb, hg, hl, hr0⟩ := h
  exact ⟨A0, c0, hg1.trans hb, hg, hl, F_keys hr0 hm⟩
theorem not_rows_of {a : Nat} {cs : Array Value} {t : TypeId} {fr : Nat × Nat} (hb2 : W.heap[a]? = some (.cells cs t fr)) (ht : t ≠ 31 ∧ t ≠ 5) : ¬ TyT W a := by
  rintro ⟨cs2, t2, fr2, e1, h2⟩
  rw [hb2] at e1
  injection e1 with e1
  injection e1 with _ e2
  rcases h2 with h2 | h2
  · exact ht.1 (e2.trans h2)
  · exact ht.2 (e2.trans h2)
theorem not_rows_set {p : Addr} {u : Value} {a : Nat} (h : ¬ TyT W a) : ¬ TyT (W.setCell p u) a := by
  rintro ⟨cs, t, fr, e, h3⟩
  by_cases e2 : a = p.block
  · subst e2
    rw [World.setCell, Array.getElem?_modify] at e
    simp only [if_true] at e
    cases ho : W.heap[p.block]? with
    | none => rw [ho] at e; cases e
    | some o =>
      rw [ho] at e
      simp only [Option.map_some, Option.some.injEq] at e
      cases o with
      | cells cs2 t2 fr2 =>
        simp only [Obj.cells.injEq] at e
        exact h ⟨cs2, t, fr2, by rw [ho, e.2.1], h3⟩
      | _ => cases e
  · rw [Below.heap_setCell W p u a e2] at e
    exact h ⟨cs, t, fr, e, h3⟩
theorem IsS85.not_rows (h : IsS85 w0 W g f0 f1) : ¬ TyT W g := by
  obtain ⟨A0, c0, hb, _⟩ := h
  exact not_rows_of hb (by decide)
theorem IsS85.farT {p : Addr} (h : IsS85 w0 W g f0 f1) (hne : g ≠ p.block) (hp : ¬ TyT W p.block) (u : Value) : IsS85 w0 (W.setCell p u) g f0 f1 :=
  h.move (Below.heap_setCell W p u g hne) (fun k hk => Below.heap_setCell W p u k (fun e => hp (e ▸ hk)))
theorem IsS85.lt (h : IsS85 w0 W g f0 f1) : g < W.heap.size := by
  obtain ⟨A0, c0, hb, hg, hr0⟩ := h
  exact blk_lt hb
theorem IsS85.below (h : IsS85 w0 W g f0 f1) (hw : Below W.heap.size W W1) : IsS85 w0 W1 g f0 f1 := h.move (hw.block g h.lt) (fun k hk => hw.block k hk.lt)
theorem IsS85.drewN (h : IsS85 w0 W g f0 f1) (m : Nat) : IsS85 w0 (W.drewN m) g f0 f1 := h.move rfl (fun _ _ => rfl)
theorem IsS85.drew (h : IsS85 w0 W g f0 f1) : IsS85 w0 W.drew g f0 f1 := h.move rfl (fun _ _ => rfl)
theorem IsS85.own_neN {α : Type} {d : Kd α} {e : Nat} {base : Nat} {ok : Nat → Prop} {v : Value} {xs : List α} (h : IsS85 w0 W g f0 f1) (ho : Kd.N d e W base ok v xs) (ht : e ≠ 85) : some g ≠ v.ownBlock := by
  obtain ⟨A0, c0, hb, hg, hr0⟩ := h
  exact Kd.N_ne ho hb ht
theorem IsS85.fresh (h : IsS85 w0 W g f0 f1) : ∀ k, W.heap.size ≤ k → k ≠ g := by
  obtain ⟨A0, c0, hb, hg, hr0⟩ := h
  exact Kd.freshB hb
theorem IsS85.alloc (h : IsS85 w0 W g f0 f1) (o : Obj) : IsS85 w0 (W.alloc o) g f0 f1 := h.below (below_alloc (Below.refl _ _) o)
theorem IsS85.at_ {w' : World} {m : Nat} (hq : W.drewN m = w') (h : IsS85 w0 W g f0 f1) : IsS85 w0 w' g f0 f1 := by subst hq; exact IsS85.drewN h m
theorem IsS85.apart {α : Type} {d : Kd α} {e : Nat} {base : Nat} {ok : Nat → Prop} {v : Value} {xs : List α} (h : IsS85 w0 W g f0 f1) (ho : d.R e W base ok v xs) (ht : ∀ q, q ∈ e :: d.E → q ≠ 85) : d.R e W base (fun k => ok k ∧ k ≠ g) v xs := by
  obtain ⟨A0, c0, hb, hg, hr0⟩ := h
  exact Kd.R_types ho hb ht
theorem IsS85.own_ne {α : Type} {d : Kd α} {e : Nat} {base : Nat} {ok : Nat → Prop} {v : Value} {xs : List α} (h : IsS85 w0 W g f0 f1) (ho : d.R e W base ok v xs) (ht : e ≠ 85) : some g ≠ v.ownBlock := by
  obtain ⟨A0, c0, hb, hg, hr0⟩ := h
  exact Kd.R_ne ho hb ht
theorem IsS85.apartQ {α : Type} {d : Kd α} {e : Nat} {base : Nat} {ok : Nat → Prop} {v : Value} {xs : List α} (h : IsS85 w0 W g f0 f1) (ho : d.Q e W base ok v xs) (ht : ∀ q, q ∈ e :: d.E → q ≠ 85) : d.Q e W base (fun k => ok k ∧ k ≠ g) v xs := by
  obtain ⟨A0, c0, hb, hg, hr0⟩ := h
  exact Kd.Q_types ho hb ht
theorem IsS85.own_neQ {α : Type} {d : Kd α} {e : Nat} {base : Nat} {ok : Nat → Prop} {v : Value} {xs : List α} (h : IsS85 w0 W g f0 f1) (ho : d.Q e W base ok v xs) (ht : e ≠ 85) : some g ≠ v.ownBlock := by
  obtain ⟨A0, c0, hb, hg, hr0⟩ := h
  exact Kd.Q_ne ho hb ht
theorem IsS85.apartS {α : Type} {d : Kd α} {e : Nat} {base : Nat} {ok : Nat → Prop} {v : Value} {xs : List α} (h : IsS85 w0 W g f0 f1) (ho : d.S e W base ok v xs) (ht : ∀ q, q ∈ e :: d.E → q ≠ 85) : d.S e W base (fun k => ok k ∧ k ≠ g) v xs := by
  obtain ⟨A0, c0, hb, hg, hr0⟩ := h
  exact Kd.S_types ho hb ht
theorem IsS85.own_neS {α : Type} {d : Kd α} {e : Nat} {base : Nat} {ok : Nat → Prop} {v : Value} {xs : List α} (h : IsS85 w0 W g f0 f1) (ho : d.S e W base ok v xs) (ht : e ≠ 85) : some g ≠ v.ownBlock := by
  obtain ⟨A0, c0, hb, hg, hr0⟩ := h
  exact Kd.S_ne ho hb ht
theorem IsS85.ge (h : IsS85 w0 W g f0 f1) : w0.heap.size ≤ g := by
  obtain ⟨A0, c0, hb, hg, hr0⟩ := h
  exact hg
theorem IsS85.ne_blk {a : Nat} {cs : Array Value} {t : TypeId} {fr : Nat × Nat} (h : IsS85 w0 W g f0 f1) (hb2 : W.heap[a]? = some (.cells cs t fr)) (ht : t ≠ 85) : g ≠ a := by
  obtain ⟨A0, c0, hb, hg, hr0⟩ := h
  rintro rfl
  rw [hb] at hb2
  injection hb2 with hb2
  injection hb2 with _ ht2
  exact ht ht2.symm
theorem cellS85_0 {A0 : Option Addr} {c0 : Nat} (h : W.heap[g]? = some (.cells #[.slice A0 f0.length c0, .int .i64 f1] 85 (0, 0))) : W.cell? ⟨g, 0, none⟩ = some (.slice A0 f0.length c0) := (blk_cell h 0).trans rfl
theorem cellS85_1 {A0 : Option Addr} {c0 : Nat} (h : W.heap[g]? = some (.cells #[.slice A0 f0.length c0, .int .i64 f1] 85 (0, 0))) : W.cell? ⟨g, 1, none⟩ = some (.int .i64 f1) := (blk_cell h 1).trans rfl
theorem IsS85.set_1 (h : IsS85 w0 W g f0 f1) (x : Int) : IsS85 w0 (W.setCell ⟨g, 1, none⟩ (.int .i64 x)) g f0 x := by
  have hnr := h.not_rows
  obtain ⟨A0, c0, hb, hg, hl, hr0⟩ := h
  exact ⟨A0, c0, by simpa using blk_set hb 1 (.int .i64 x), hg, hl, F_keys hr0 (fun k hk => Below.heap_setCell W _ _ k (fun e => hnr (by rw [show k = g from e] at hk; exact hk)))⟩
end


/-! ### tape_New: function 16 -/
/-- A key: the first 32 bytes, with noughts behind. -/
def pad32 (b : List Int) : List Int := b.take (min b.length (List.replicate 32 (0 : Int)).length) ++ (List.replicate 32 (0 : Int)).drop (min b.length (List.replicate 32 (0 : Int)).length)
def tape_New.f (k : Nat) (l0 : List (List Int)) : Option (List (List Int) × Int) := if l0.length < 5864062014805 then some (l0.map pad32, 0) else none
theorem tape_New.mono : ∀ a0 k, LeO (tape_New.f k a0) (tape_New.f (k + 1) a0) := fun _ _ => LeO.refl _
set_option maxHeartbeats 8000000 in
set_option maxRecDepth 100000 in
theorem tape_New.calls (k : Nat) (A0 : Option Addr) (c0 : Nat) (l0 : List (List Int)) (r1 : List (List Int)) (r2 : Int) (w0 w : World) (hB : Below w0.heap.size w0 w) (hr0 : Kd.C (Kd.slice 5 (Kd.int .u8)) w A0 l0.length l0) (hc0 : l0.length ≤ c0) (h : tape_New.f k l0 = some (r1, r2)) :
    Calls Try.prog 16 #[.slice A0 l0.length c0] w fun e w' => ∃ g_ : Nat, e = .returned (.pointer (some ⟨g_, 0, none⟩)) ∧ IsS85 w0 w' g_ r1 r2 ∧ Below w0.heap.size w0 w' ∧ Below w.heap.size w w' := by
  have hu := Try.underlying85
  unfold tape_New.f at h
  by_cases hlen : l0.length < 5864062014805
  case neg => rw [if_neg hlen] at h; cases h
  rw [if_pos hlen] at h
  simp only [Option.some.injEq, Prod.mk.injEq] at h
  obtain ⟨rfl, rfl⟩ := h
  have HL := Aside0.mk hlen
  have HR0 := Aside0.mk hr0
  have HC0 := Aside0.mk hc0
  have HB0 := Aside0.mk hB
  have HB := Aside0.mk (Below.refl w.heap.size w)
  clear hr0 hc0 hB hlen
  go_enter Try.func16, Try.ntmps16
  go_wp2_with ((with_reducible refine gate_dst (N := 8) rfl ?_); refine box_event ?hg (N := 8) ?hd (cs := #[.slice none 0 0, .int .i64 0]) (t := 85) ?hr ?_; (case hd => rfl); (case hg => rfl); (case hr => first | (go_simp; done) | (go_simp; rfl)); intro gb hg w2 hbox hb; have n0_ := Aside0.mk (below_step HB.out hb); have n1_ := Aside0.mk hbox; have n2_ := Aside0.mk ((by rw [hg]; exact below_size HB.out) : w.heap.size ≤ gb); clear HB; have HB := n0_; have BK := n1_; have GE := n2_; clear n0_ n1_ n2_; clear hb hbox hg)
  go_loopg [11] (l0.length + 1) (fun kq v11 w' => ∃ (x : Int) (u : Value), v11 = .int .i64 x ∧ Aside0 (x + (kq : Int) = (l0.length : Int) + 1) ∧ Aside0 (0 ≤ x ∧ x ≤ (l0.length : Int)) ∧ Aside0 (Kd.S (Kd.slice 5 (Kd.int .u8)) 31 w' w.heap.size (fun _ => True) u ((l0.take x.toNat).map pad32)) ∧ Aside0 (w'.heap[gb]? = some (.cells #[u, .int .i64 0] 85 (0, 0))) ∧ Aside0 (Below w.heap.size w w'))
  case atStart => exact ⟨0, .slice none 0 0, rfl, ⟨by omega⟩, ⟨by omega⟩, ⟨Kd.S_nil _ _ _ _ _⟩, BK, HB⟩
  case round =>
    obtain ⟨x, u, rfl, HK, HI, HO, BK, HB⟩ := hrel
    by_cases c1 : x < (l0.length : Int)
    · obtain ⟨k1, rfl⟩ : ∃ k1, gk = k1 + 1 := ⟨gk - 1, by have := HK.out; omega⟩
      have c1b : decide (x < (l0.length : Int)) = true := decide_eq_true c1
      have p1 : 0 ≤ x := HI.out.1
      have q1 : x < (l0.length : Int) := c1
      obtain ⟨ad, A1, c1_, e1, hx1, hl1, hi1⟩ := at_L1 HR0.out x p1 q1
      cases e1
      replace hx1 := (HB.out.cell (World.block_lt_of_cell? w _ hx1)).trans hx1
      have HR1 := Aside0.mk hi1
      have HC1 := Aside0.mk hl1
      have HLT := Aside0.mk c1
      have HW := Aside0.mk (Go.IntWalk.wrap64_in (x + 1) ⟨by have := HI.out; omega, by have := HL.out; omega⟩)
      obtain ⟨Y, hY⟩ : ∃ Y, Y = (l0.take (wrap64 (x + 1)).toNat).map pad32 := ⟨_, rfl⟩
      have HY : Aside0 (Y = (l0.take x.toNat).map pad32 ++ [pad32 (rd_L1 l0 x)]) := ⟨by
        have h0 := HI.out.1
        rw [hY, HW.out, show (x + 1).toNat = x.toNat + 1 by omega, List.take_succ_eq_append_getElem (by omega), List.map_append, List.map_singleton]
        unfold rd_L1
        rw [List.getD_eq_getElem?_getD, List.getElem?_eq_getElem (by omega), Option.getD_some]⟩
      have HYd := Aside0.mk hY
      clear hY
      clear hi1 hl1 c1
      replace p1 := eq_true p1
      replace q1 := eq_true q1
      go_wp2_with (first | ((with_reducible refine gate_dst (N := 15) rfl ?_); refine Kd.R_make (Kd.int .u8) _ 5 rfl (N := 15) rfl 31 _ _ rfl 32 rfl rfl Try.underlying31 (.int .u8 0) 1 info5 rfl (by decide) (by omega) 0 (ok := fun _ => True) (okp := fun _ => True) rfl (fun _ hk => hk) trivial (by omega) (by omega) (Below.refl _ _) (Nat.le_refl _) ?_; intro v w3 ho hb hg_ hnew_; clear hg_ hnew_; have n0_ := Aside0.mk (Kd.S_elder' HO.out (Kd.R_base ho) hb); have n1_ := Aside0.mk (Kd.R_tight rfl (Kd.R_lower ho (below_size HB.out))); have n2_ := Aside0.mk (blk_below BK.out hb); have n3_ := Aside0.mk (below_step HB.out hb); have n4_ := Aside0.mk (Kd.C_below HR1.out HB.out); have n5_ := Aside0.mk (Kd.C_below n4_.out hb); clear HO BK HB; have HO := n0_; have HV := n1_; have BK := n2_; have HB := n3_; have HR3 := n5_; clear n0_ n1_ n2_ n3_ n4_ n5_; clear hb ho; skip) | ((with_reducible refine gate_builtin (b := .copy) (xs := #[.tmp 16, .tmp 17]) rfl ?_); refine Kd.R_copy (0 : Int) (w0 := w) w.heap.size rfl (.tmp 16) (.tmp 17) 31 31 5 rfl Try.underlying31 rfl v _ _ _ _ _ _ rfl rfl HV.out HR3.out HB.out (below_size HB.out) ?_; intro w4 ho hb hg; have n0_ := Aside0.mk (Kd.S_grown HO.out hg (fun k hk => hk.2)); have n1_ := Aside0.mk (show Kd.R (Kd.int .u8) 5 w4 w.heap.size (fun k => some k = v.ownBlock) v (pad32 (rd_L1 l0 x)) from ho); have n2_ := Aside0.mk (blk_grown BK.out hg (Kd.R_ne HV.out BK.out (by decide))); have n3_ := Aside0.mk hb; clear HO HV BK HB HR3; have HO := n0_; have HV := n1_; have BK := n2_; have HB := n3_; clear n0_ n1_ n2_ n3_; clear ho hb hg; have hcz0 : w4.cell? ⟨gb, 0, none⟩ = some u := (blk_cell BK.out 0).trans rfl; have hfz0 := blk_frozen BK.out 0; obtain ⟨Ao, co, eo⟩ := Kd.R_slice HV.out; subst eo) | ((with_reducible refine gate_builtin (b := .append) (xs := #[.tmp 23, .tmp 25]) rfl ?_); at_builtin; refine Kd.S_append (Kd.slice 5 (Kd.int .u8)) (w0 := w) w.heap.size rfl (.tmp 23) (.tmp 25) 22 31 (.slice none 0 0) 24 rfl Try.underlying22 info31 rfl (by decide) (by omega) u ((l0.take x.toNat).map pad32) (pad32 (rd_L1 l0 x)) [.slice Ao (pad32 (rd_L1 l0 x)).length co] (fun _ => True) (fun k_ => some k_ = (.slice Ao (pad32 (rd_L1 l0 x)).length co : Value).ownBlock) rfl rfl ?aP (fun k_ hk_ => ((Kd.R_mono (ok' := fun k_ => ((fun _ => True)) k_ ∧ some k_ ≠ (u : Value).ownBlock) (Kd.R_apart' (HV.out) (Kd.S_typed HO.out) (by decide)) (fun k_ hk => ⟨trivial, hk.2⟩))).1 k_ hk_.symm) ?aF ?aO ?aB ?aS ?aL ?_; (case aP => exact Kd.M_row HV.out); (case aB => exact HB.out); (case aF => exact (fun _ _ => trivial)); (case aO => exact Kd.S_mono HO.out (fun k_ hk => ⟨trivial, fun e_ => hk.2 e_⟩)); (case aS => exact below_size HB.out); (case aL => have := HL.out; have hl_ : ((l0.take x.toNat).map pad32).length ≤ l0.length := (by rw [List.length_map, List.length_take]; omega); omega); intro u5 w5 ho hb hg hat; rw [← HY.out] at ho; have n0_ := Aside0.mk (blk_grown BK.out hg (Kd.S_ne HO.out BK.out (by decide))); have n1_ := Aside0.mk hb; have n2_ := Aside0.mk ho; clear BK HB HO HV; have BK := n0_; have HB := n1_; have HO := n2_; clear n0_ n1_ n2_; clear ho hb hg hat; have hcz1 : w5.cell? ⟨gb, 0, none⟩ = some u := (blk_cell BK.out 0).trans rfl; have hfz1 := blk_frozen BK.out 0; obtain ⟨A5, c5, e5⟩ := Kd.S_slice HO.out; subst e5))
      go_roundg k1
      case measure => omega
      case rel => exact ⟨wrap64 (x + 1), _, rfl, ⟨by rw [HW.out]; have := HK.out; omega⟩, ⟨by rw [HW.out]; have := HI.out; have := HLT.out; omega⟩, ⟨by rw [← HYd.out]; exact Kd.S_mono (Kd.S_far (p := ⟨gb, 0, none⟩) (Kd.S_types HO.out BK.out (by decide)) (fun _ hk => hk.2) _) (fun _ _ => trivial)⟩, ⟨blk_put (cs := #[u, .int .i64 0]) BK.out 0 _ rfl⟩, ⟨below_set HB.out GE.out⟩⟩
    · have c1b : decide (x < (l0.length : Int)) = false := decide_eq_false c1
      have e : (l0.take x.toNat).map pad32 = l0.map pad32 := by rw [List.take_of_length_le (by omega)]
      rw [e] at HO
      obtain ⟨Y, hY⟩ : ∃ Y, Y = l0.map pad32 := ⟨_, rfl⟩
      rw [← hY] at HO
      have HYd := Aside0.mk hY
      clear hY e c1
      obtain ⟨A5, c5, e5⟩ := Kd.S_slice HO.out
      subst e5
      go_wp2
      go_ret
      have hY := HYd.out
      subst hY
      have b1 := HB0.out
      have hs := b1.size
      exact ⟨gb, rfl, ⟨A5, c5, BK.out, by have := GE.out; omega, (Kd.S_reads' HO.out).2.1, Kd.F_mono (Kd.R_F (Kd.R_bound (Kd.S_R HO.out))) (fun k hk => by
        obtain ⟨_, _, _, q, hq, cells, hc⟩ := hk
        refine ⟨cells, q, _, hc, ?_⟩
        simpa [Kd.slice, Kd.int, Kd.scalar] using hq)⟩, b1.trans (HB.out.mono hs), HB.out⟩



/-! ### octet_Same: function 58 -/
def octet_Same.l0 : Nat → List Int → List Int → Int → Int → Int → Option (Bool)
  | 0, _, _, _, _, _ => none
  | k + 1, x0, x1, x5, x13, x14 => if x14 < x13 then (if 0 ≤ x14 then (if x14 < (x0.length : Int) then (if x14 < (x1.length : Int) then (octet_Same.l0 k x0 x1 (Go.bits .or .u8 x5 (Go.bits .xor .u8 (rd x0 x14) (rd x1 x14))) x13 (wrap64 (x14 + 1))) else (none)) else (none)) else (none)) else (some (x5 == 0))
def octet_Same.f (k : Nat) (l0 : List Int) (l1 : List Int) : Option (Bool) := if (l0.length : Int) = (l1.length : Int) then (octet_Same.l0 k l0 l1 0 (l0.length : Int) 0) else (some false)
theorem octet_Same.mono_l : ∀ k, (∀ y0 y1 y2 y3 y4, LeO (octet_Same.l0 k y0 y1 y2 y3 y4) (octet_Same.l0 (k + 1) y0 y1 y2 y3 y4))
  | 0 => fun _ _ _ _ _ r h => by simp [octet_Same.l0] at h
  | k + 1 => by
    have ih0 := octet_Same.mono_l k
    · intro y0 y1 y2 y3 y4
      unfold octet_Same.l0
      repeat' first
      | (with_reducible exact ih0 _ _ _ _ _)
      | (with_reducible exact LeO.refl _)
      | (with_reducible exact LeO.none _)
      | (with_reducible refine LeO.ite ?_ ?_)
      | (with_reducible refine LeO.bind ?_ (fun _ => ?_))
      | exact ih0 _ _ _ _ _
      | exact LeO.none _
      | refine LeO.ite ?_ ?_
      | refine LeO.bind ?_ (fun _ => ?_)
theorem octet_Same.mono : ∀ a0 a1 k, LeO (octet_Same.f k a0 a1) (octet_Same.f (k + 1) a0 a1) := by
  intro a0 a1 k
  have ih0 := octet_Same.mono_l k
  unfold octet_Same.f
  repeat' first
      | (with_reducible exact ih0 _ _ _ _ _)
      | (with_reducible exact LeO.refl _)
      | (with_reducible exact LeO.none _)
      | (with_reducible refine LeO.ite ?_ ?_)
      | (with_reducible refine LeO.bind ?_ (fun _ => ?_))
      | exact ih0 _ _ _ _ _
      | exact LeO.none _
      | refine LeO.ite ?_ ?_
      | refine LeO.bind ?_ (fun _ => ?_)
set_option maxHeartbeats 8000000 in
set_option maxRecDepth 100000 in
theorem octet_Same.calls (k : Nat) (A0 : Option Addr) (c0 : Nat) (l0 : List Int) (A1 : Option Addr) (c1 : Nat) (l1 : List Int) (r : Bool) (w : World) (hr0 : Kd.C (Kd.int .u8) w A0 l0.length l0) (hc0 : l0.length ≤ c0) (hr1 : Kd.C (Kd.int .u8) w A1 l1.length l1) (hc1 : l1.length ≤ c1) (h : octet_Same.f k l0 l1 = some r) :
    Calls Try.prog 58 #[.slice A0 l0.length c0, .slice A1 l1.length c1] w fun e w' => e = .returned (.bool r) ∧ Drawn0 w w' := by
  have HR0 := Aside0.mk hr0
  have HC0 := Aside0.mk hc0
  clear hr0 hc0
  have HR1 := Aside0.mk hr1
  have HC1 := Aside0.mk hc1
  clear hr1 hc1
  have H : (if (l0.length : Int) = (l1.length : Int) then (octet_Same.l0 k l0 l1 0 (l0.length : Int) 0) else (some false)) = some r := h
  clear h
  by_cases c3 : (l0.length : Int) = (l1.length : Int)
  · rw [if_pos c3] at H
    have c3b0 : ((l0.length : Int) == (l1.length : Int)) = true := beq_iff_eq.mpr c3
    have c3b1 : ((l0.length : Int) != (l1.length : Int)) = false := bne_eq_false_iff_eq.mpr c3
    have c3b2 : (l0.length == l1.length) = true := by first | simpa using c3 | (simp at c3 ⊢; omega)
    clear c3
    have H' := Aside0.mk H
    clear H
    go_enter Try.func58, Try.ntmps58
    go_wp2
    repeat (go_quiet (fail); try go_wp2)
    go_loopg [5, 14] k (fun kq v5 v14 w' => ∃ (x5_1 : Int) (x14_1 : Int), v5 = .int .u8 x5_1 ∧ v14 = .int .i64 x14_1 ∧ Aside0 (octet_Same.l0 kq l0 l1 x5_1 (l0.length : Int) x14_1 = some r) ∧ Aside0 (kq ≤ k) ∧ Drawn0 w w')
    case atStart => exact ⟨(0), (0), (by first | rfl | (simp; done) | (simp [*]; done)), (by first | rfl | (simp; done) | (simp [*]; done)), H', ⟨Nat.le_refl _⟩, by repeat (first | exact Drawn0.refl _ | apply Drawn0.step)⟩
    case round =>
      clear H'
      try clear c1
      try clear p2
      try clear c3
      try clear c3b0
      try clear c3b1
      try clear c3b2
      obtain ⟨x5_1, x14_1, rfl, rfl, HA, HK1, ⟨m1, rfl⟩⟩ := hrel
      cases gk with
      | zero => exact absurd HA.out (by simp [octet_Same.l0])
      | succ k1 =>
        have H := HA.out
        clear HA
        simp only [octet_Same.l0] at H
        by_cases c4 : x14_1 < (l0.length : Int)
        · rw [if_pos c4] at H
          have c4b0 : decide (x14_1 < (l0.length : Int)) = true := decide_eq_true c4
          clear c4
          by_cases c5 : 0 ≤ x14_1
          · rw [if_pos c5] at H
            have c5b0 : decide (0 ≤ x14_1) = true := decide_eq_true c5
            clear c5
            by_cases c6 : x14_1 < (l0.length : Int)
            · rw [if_pos c6] at H
              have c6b0 : decide (x14_1 < (l0.length : Int)) = true := decide_eq_true c6
              clear c6
              by_cases c7 : x14_1 < (l1.length : Int)
              · rw [if_pos c7] at H
                have c7b0 : decide (x14_1 < (l1.length : Int)) = true := decide_eq_true c7
                clear c7
                have H' := Aside0.mk H
                clear H
                have p103 : 0 ≤ (x14_1 : Int) := of_decide_eq_true (by first | (with_reducible assumption) | assumption)
                have q103 : x14_1 < (l0.length : Int) := of_decide_eq_true (by first | (with_reducible assumption) | assumption)
                obtain ⟨ad103, e103, hx103_0⟩ := Kd.at_int HR0.out x14_1 p103 q103
                cases e103
                replace p103 := eq_true p103
                replace q103 := eq_true q103
                have p104 : 0 ≤ (x14_1 : Int) := of_decide_eq_true (by first | (with_reducible assumption) | assumption)
                have q104 : x14_1 < (l1.length : Int) := of_decide_eq_true (by first | (with_reducible assumption) | assumption)
                obtain ⟨ad104, e104, hx104_0⟩ := Kd.at_int HR1.out x14_1 p104 q104
                cases e104
                replace p104 := eq_true p104
                replace q104 := eq_true q104
                go_wp2
                repeat (go_quiet (fail); try go_wp2)
                go_roundg k1
                case measure => have := HK1.out; omega
                case rel => exact ⟨(Go.bits .or .u8 x5_1 (Go.bits .xor .u8 (rd l0 x14_1) (rd l1 x14_1))), (wrap64 (x14_1 + 1)), (by first | rfl | (simp; done) | (simp [*]; done)), (by first | rfl | (simp; done) | (simp [*]; done)), H', ⟨by have := HK1.out; omega⟩, by repeat (first | exact Drawn0.refl _ | apply Drawn0.step)⟩
              · rw [if_neg c7] at H
                exact absurd H (by simp)
            · rw [if_neg c6] at H
              exact absurd H (by simp)
          · rw [if_neg c5] at H
            exact absurd H (by simp)
        · rw [if_neg c4] at H
          have c4b0 : decide (x14_1 < (l0.length : Int)) = false := decide_eq_false c4
          clear c4
          obtain rfl := Option.some.inj H
          go_wp2
          repeat (go_quiet (fail); try go_wp2)
          go_ret
          exact ⟨by first | rfl | (simp; done) | (simp [*]; done), by repeat (first | exact Drawn0.refl _ | apply Drawn0.step)⟩
  · rw [if_neg c3] at H
    have c3b0 : ((l0.length : Int) == (l1.length : Int)) = false := beq_eq_false_iff_ne.mpr c3
    have c3b1 : ((l0.length : Int) != (l1.length : Int)) = true := bne_iff_ne.mpr c3
    have c3b2 : (l0.length == l1.length) = false := by first | simpa using c3 | (simp at c3 ⊢; omega)
    obtain rfl := Option.some.inj H
    go_enter Try.func58, Try.ntmps58
    go_wp2
    repeat (go_quiet (fail); try go_wp2)
    go_ret
    exact ⟨by first | rfl | (simp; done) | (simp [*]; done), by repeat (first | exact Drawn0.refl _ | apply Drawn0.step)⟩

/-! ### tape_Tape_Apart: function 18 -/
mutual
def tape_Apart.l0 : Nat → List (List Int) → Int → Option Bool
  | 0, _, _ => none
  | k + 1, x, i => if i < (x.length : Int) then tape_Apart.l1 k x i 0 else some true
def tape_Apart.l1 : Nat → List (List Int) → Int → Int → Option Bool
  | 0, _, _, _ => none
  | k + 1, x, i, j => if j < i then (if 0 ≤ j then (if i < (x.length : Int) then ((octet_Same.f k (rd_L1 x i) (rd_L1 x j)).bind fun t => if t = true then some false else tape_Apart.l1 k x i (wrap64 (j + 1))) else none) else none) else tape_Apart.l0 k x (wrap64 (i + 1))
end
def tape_Tape_Apart.f (k : Nat) (s0_0 : List (List Int)) (s0_1 : Int) : Option (Bool × List (List Int) × Int) := (tape_Apart.l0 k s0_0 0).bind fun t => some (t, s0_0, s0_1)
theorem tape_Apart.mono_l : ∀ k, (∀ y0 y1, LeO (tape_Apart.l0 k y0 y1) (tape_Apart.l0 (k + 1) y0 y1)) ∧ (∀ y0 y1 y2, LeO (tape_Apart.l1 k y0 y1 y2) (tape_Apart.l1 (k + 1) y0 y1 y2))
  | 0 => ⟨fun _ _ r h => by simp [tape_Apart.l0] at h, fun _ _ _ r h => by simp [tape_Apart.l1] at h⟩
  | k + 1 => by
    obtain ⟨ih0, ih1⟩ := tape_Apart.mono_l k
    refine ⟨?_, ?_⟩
    · intro y0 y1
      unfold tape_Apart.l0
      exact LeO.ite (ih1 _ _ _) (LeO.refl _)
    · intro y0 y1 y2
      unfold tape_Apart.l1
      exact LeO.ite (LeO.ite (LeO.ite (LeO.bind (octet_Same.mono _ _ _) (fun _ => LeO.ite (LeO.refl _) (ih1 _ _ _))) (LeO.refl _)) (LeO.refl _)) (ih0 _ _)
theorem tape_Tape_Apart.mono : ∀ a0 a1 k, LeO (tape_Tape_Apart.f k a0 a1) (tape_Tape_Apart.f (k + 1) a0 a1) := fun a0 a1 k => LeO.bind ((tape_Apart.mono_l k).1 _ _) (fun _ => LeO.refl _)
set_option maxHeartbeats 8000000 in
set_option maxRecDepth 100000 in
/-- The closure in Apart: whether two keys are the same. -/
theorem tape_same_calls (k g gb : Nat) (s0 : List (List Int)) (s1 i j : Int) (t : Bool) (w0 w : World) (hBK : w.heap[gb]? = some (.cells #[.pointer (some ⟨g, 0, none⟩)] 25 (0, 0))) (hI : IsS85 w0 w g s0 s1) (hi0 : 0 ≤ i) (hi1 : i < (s0.length : Int)) (hj0 : 0 ≤ j) (hj1 : j < (s0.length : Int)) (h : octet_Same.f k (rd_L1 s0 i) (rd_L1 s0 j) = some t) :
    Calls Try.prog 76 #[.int .i64 i, .int .i64 j, .pointer (some ⟨gb, 0, none⟩)] w fun e w' => e = .returned (.bool t) ∧ Below w.heap.size w w' := by
  obtain ⟨A0, c0, hb, hg, hl, hr⟩ := id hI
  have hx0 := cellS85_0 hb
  have hz0 : w.cell? ⟨gb, 0, none⟩ = some (.pointer (some ⟨g, 0, none⟩)) := (blk_cell hBK 0).trans rfl
  obtain ⟨ad, Ai, ci, ei, hi3, hli, hri⟩ := at_L1 (Kd.F_now hr) i hi0 hi1
  cases ei
  obtain ⟨ad2, Aj, cj, ej, hj3, hlj, hrj⟩ := at_L1 (Kd.F_now hr) j hj0 hj1
  obtain rfl : ad = ad2 := by injection ej
  have HRi := Aside0.mk (Kd.C_drew hri)
  have HRj := Aside0.mk (Kd.C_drew hrj)
  have HCi := Aside0.mk hli
  have HCj := Aside0.mk hlj
  have HJ := Aside0.mk h
  have HB := Aside0.mk (below_drew1 (Below.refl w.heap.size w))
  have pi1 := eq_true hi0
  have qi1 := eq_true hi1
  have pj1 := eq_true hj0
  have qj1 := eq_true hj1
  clear hi0 hi1 hj0 hj1 hri hrj hli hlj h hBK hI hb hg hl hr ej
  go_enter Try.func76, Try.ntmps76
  try go_wp2
  refine start_ (n := 16) (S := fun w' => w'.cell? ⟨gb, 0, none⟩ = some (.pointer (some ⟨g, 0, none⟩)) ∧ w'.cell? ⟨g, 0, none⟩ = some (.slice (some ad) s0.length c0) ∧ w'.cell? (ad.add i.toNat) = some (.slice Ai (rd_L1 s0 i).length ci) ∧ w'.cell? (ad.add j.toNat) = some (.slice Aj (rd_L1 s0 j).length cj)) (ds := [14]) #[false, false, false, false, false, false, false, false, false, false, false, false, false, false, false, false] (by kernel_rfl) rfl rfl ⟨hz0, hx0, hi3, hj3⟩ (fun hHeld => ?_)
  generalize w.drew = wr at HB HRi HRj hHeld ⊢
  refine pure_ (i := 4) (N := some 10) (v := ?_) (a' := ?_) #[false, false, false, false, true, false, false, false, false, false, false, false, false, false, false, false] rfl rfl (by kernel_rfl) (fun _ _ _ h => h) (Or.inl ⟨by rfl, ?_⟩) ?_ ?_
  rotate_left
  · intro w'
    go_simp
    with_reducible rfl
  rotate_left
  · simp only [Act.put, List.setIfInBounds_toArray, List.set_cons_zero, List.set_cons_succ, i64_w, i32_w]
    rfl
  refine pure_ (i := 11) (N := some 17) (v := ?_) (a' := ?_) #[false, false, false, false, true, false, false, false, false, false, false, true, false, false, false, false] rfl rfl (by kernel_rfl) (fun _ _ _ h => h) (Or.inl ⟨by rfl, ?_⟩) ?_ ?_
  rotate_left
  · intro w'
    go_simp
    with_reducible rfl
  rotate_left
  · simp only [Act.put, List.setIfInBounds_toArray, List.set_cons_zero, List.set_cons_succ, i64_w, i32_w]
    rfl
  refine take_ (i := 0) (N := some 6) (v := ?_) (a' := ?_) #[true, false, false, false, true, false, false, false, false, false, false, true, false, false, false, false] rfl rfl (by kernel_rfl) (fun _ _ _ h => h) (Or.inl ⟨by rfl, ?_⟩) hHeld ?_ ?_
  rotate_left
  · rintro w' ⟨s0, s1, s2, s3⟩
    go_simp
    with_reducible rfl
  rotate_left
  · simp only [Act.put, List.setIfInBounds_toArray, List.set_cons_zero, List.set_cons_succ, i64_w, i32_w]
    rfl
  refine pure_ (i := 1) (N := some 7) (v := ?_) (a' := ?_) #[true, true, false, false, true, false, false, false, false, false, false, true, false, false, false, false] rfl rfl (by kernel_rfl) (fun _ _ _ h => h) (Or.inl ⟨by rfl, ?_⟩) ?_ ?_
  rotate_left
  · intro w'
    go_simp
    with_reducible rfl
  rotate_left
  · simp only [Act.put, List.setIfInBounds_toArray, List.set_cons_zero, List.set_cons_succ, i64_w, i32_w]
    rfl
  refine pure_ (i := 2) (N := some 8) (v := ?_) (a' := ?_) #[true, true, true, false, true, false, false, false, false, false, false, true, false, false, false, false] rfl rfl (by kernel_rfl) (fun _ _ _ h => h) (Or.inl ⟨by rfl, ?_⟩) ?_ ?_
  rotate_left
  · intro w'
    go_simp
    with_reducible rfl
  rotate_left
  · simp only [Act.put, List.setIfInBounds_toArray, List.set_cons_zero, List.set_cons_succ, i64_w, i32_w]
    rfl
  refine take_ (i := 3) (N := some 9) (v := ?_) (a' := ?_) #[true, true, true, true, true, false, false, false, false, false, false, true, false, false, false, false] rfl rfl (by kernel_rfl) (fun _ _ _ h => h) (Or.inl ⟨by rfl, ?_⟩) hHeld ?_ ?_
  rotate_left
  · rintro w' ⟨s0, s1, s2, s3⟩
    go_simp
    with_reducible rfl
  rotate_left
  · simp only [Act.put, List.setIfInBounds_toArray, List.set_cons_zero, List.set_cons_succ, i64_w, i32_w]
    rfl
  refine pure_ (i := 5) (N := some 11) (v := ?_) (a' := ?_) #[true, true, true, true, true, true, false, false, false, false, false, true, false, false, false, false] rfl rfl (by kernel_rfl) (fun _ _ _ h => h) (Or.inl ⟨by rfl, ?_⟩) ?_ ?_
  rotate_left
  · intro w'
    go_simp
    with_reducible rfl
  rotate_left
  · simp only [Act.put, List.setIfInBounds_toArray, List.set_cons_zero, List.set_cons_succ, i64_w, i32_w]
    rfl
  refine take_ (i := 6) (N := some 12) (v := ?_) (a' := ?_) #[true, true, true, true, true, true, true, false, false, false, false, true, false, false, false, false] rfl rfl (by kernel_rfl) (fun _ _ _ h => h) (Or.inl ⟨by rfl, ?_⟩) hHeld ?_ ?_
  rotate_left
  · rintro w' ⟨s0, s1, s2, s3⟩
    go_simp
    with_reducible rfl
  rotate_left
  · simp only [Act.put, List.setIfInBounds_toArray, List.set_cons_zero, List.set_cons_succ, i64_w, i32_w]
    rfl
  refine take_ (i := 7) (N := some 13) (v := ?_) (a' := ?_) #[true, true, true, true, true, true, true, true, false, false, false, true, false, false, false, false] rfl rfl (by kernel_rfl) (fun _ _ _ h => h) (Or.inl ⟨by rfl, ?_⟩) hHeld ?_ ?_
  rotate_left
  · rintro w' ⟨s0, s1, s2, s3⟩
    go_simp
    with_reducible rfl
  rotate_left
  · simp only [Act.put, List.setIfInBounds_toArray, List.set_cons_zero, List.set_cons_succ, i64_w, i32_w]
    rfl
  refine pure_ (i := 8) (N := some 14) (v := ?_) (a' := ?_) #[true, true, true, true, true, true, true, true, true, false, false, true, false, false, false, false] rfl rfl (by kernel_rfl) (fun _ _ _ h => h) (Or.inl ⟨by rfl, ?_⟩) ?_ ?_
  rotate_left
  · intro w'
    go_simp
    with_reducible rfl
  rotate_left
  · simp only [Act.put, List.setIfInBounds_toArray, List.set_cons_zero, List.set_cons_succ, i64_w, i32_w]
    rfl
  refine pure_ (i := 9) (N := some 15) (v := ?_) (a' := ?_) #[true, true, true, true, true, true, true, true, true, true, false, true, false, false, false, false] rfl rfl (by kernel_rfl) (fun _ _ _ h => h) (Or.inl ⟨by rfl, ?_⟩) ?_ ?_
  rotate_left
  · intro w'
    go_simp
    with_reducible rfl
  rotate_left
  · simp only [Act.put, List.setIfInBounds_toArray, List.set_cons_zero, List.set_cons_succ, i64_w, i32_w]
    rfl
  refine take_ (i := 10) (N := some 16) (v := ?_) (a' := ?_) #[true, true, true, true, true, true, true, true, true, true, true, true, false, false, false, false] rfl rfl (by kernel_rfl) (fun _ _ _ h => h) (Or.inl ⟨by rfl, ?_⟩) hHeld ?_ ?_
  rotate_left
  · rintro w' ⟨s0, s1, s2, s3⟩
    go_simp
    with_reducible rfl
  rotate_left
  · simp only [Act.put, List.setIfInBounds_toArray, List.set_cons_zero, List.set_cons_succ, i64_w, i32_w]
    rfl
  refine pure_ (i := 12) (N := some 18) (v := ?_) (a' := ?_) #[true, true, true, true, true, true, true, true, true, true, true, true, true, false, false, false] rfl rfl (by kernel_rfl) (fun _ _ _ h => h) (Or.inl ⟨by rfl, ?_⟩) ?_ ?_
  rotate_left
  · intro w'
    go_simp
    with_reducible rfl
  rotate_left
  · simp only [Act.put, List.setIfInBounds_toArray, List.set_cons_zero, List.set_cons_succ, i64_w, i32_w]
    rfl
  refine take_ (i := 13) (N := some 19) (v := ?_) (a' := ?_) #[true, true, true, true, true, true, true, true, true, true, true, true, true, true, false, false] rfl rfl (by kernel_rfl) (fun _ _ _ h => h) (Or.inl ⟨by rfl, ?_⟩) hHeld ?_ ?_
  rotate_left
  · rintro w' ⟨s0, s1, s2, s3⟩
    go_simp
    with_reducible rfl
  rotate_left
  · simp only [Act.put, List.setIfInBounds_toArray, List.set_cons_zero, List.set_cons_succ, i64_w, i32_w]
    rfl
  refine last_ (i := 14) (N := some 20) #[true, true, true, true, true, true, true, true, true, true, true, true, true, true, true, false] rfl rfl (by kernel_rfl) (by decide) (fun K hK => ?_)
  refine goes_ Try.func58 (by kernel_rfl) rfl #[.slice Ai (rd_L1 s0 i).length ci, .slice Aj (rd_L1 s0 j).length cj] (by rfl) rfl rfl (by simp only [List.map_toArray, List.map_cons, List.map_nil]; rfl) ?_
  refine (octet_Same.calls k _ _ (rd_L1 s0 i) _ _ (rd_L1 s0 j) t _ HRi.out HCi.out HRj.out HCj.out HJ.out).mono ?_
  rintro e w2 ⟨rfl, ⟨nd, rfl⟩⟩
  refine ⟨_, rfl, ?_⟩
  refine hK.out _ _ ?_
  clear hK K
  refine norm_ (a' := ?_) ?_ ?_
  rotate_left
  · show Act.put _ (some 20) _ = _
    simp only [Act.put, List.setIfInBounds_toArray, List.set_cons_zero, List.set_cons_succ, i64_w, i32_w]
    rfl
  refine pure_ (i := 15) (N := some 5) (v := ?_) (a' := ?_) #[true, true, true, true, true, true, true, true, true, true, true, true, true, true, true, true] rfl rfl (by kernel_rfl) (fun _ _ _ h => h) (Or.inl ⟨by rfl, ?_⟩) ?_ ?_
  rotate_left
  · intro w'
    go_simp
    with_reducible rfl
  rotate_left
  · simp only [Act.put, List.setIfInBounds_toArray, List.set_cons_zero, List.set_cons_succ, i64_w, i32_w]
    rfl
  refine done_ (by kernel_rfl) ?_
  try go_wp2
  go_ret
  exact ⟨rfl, pw_below_drewN HB.out _⟩
set_option maxHeartbeats 8000000 in
set_option maxRecDepth 100000 in
theorem tape_Tape_Apart.calls (k : Nat) (g : Nat) (s0_0 : List (List Int)) (s0_1 : Int) (r1 : Bool) (r2 : List (List Int)) (r3 : Int) (w0 w : World) (hI : IsS85 w0 w g s0_0 s0_1) (hB : Below w0.heap.size w0 w) (h : tape_Tape_Apart.f k s0_0 s0_1 = some (r1, r2, r3)) :
    Calls Try.prog 18 #[.pointer (some ⟨g, 0, none⟩)] w fun e w' => e = .returned (.bool r1) ∧ IsS85 w0 w' g r2 r3 ∧ Below w0.heap.size w0 w' ∧ KeepBut w w' g none := by
  obtain ⟨t, hj, h2⟩ := Option.bind_eq_some_iff.mp h
  simp only [Option.some.injEq, Prod.mk.injEq] at h2
  obtain ⟨rfl, rfl, rfl⟩ := h2
  have hm : ∀ w' : World, Below w.heap.size w w' → IsS85 w0 w' g s0_0 s0_1 ∧ Below w0.heap.size w0 w' ∧ KeepBut w w' g none := fun w' hb => ⟨hI.below hb, hB.trans (hb.mono hB.size), KeepBut.of_below hb g none⟩
  have hmf : ∀ (fn : Fn) (first cap : Array Value) (w : World), (Instr.makeFunc fn first cap).run Try.prog w = .ok (.func fn first cap) w := fun _ _ _ _ => rfl
  have HM := Aside0.mk hm
  have HI := Aside0.mk hI
  have HJ := Aside0.mk hj
  have HB := Aside0.mk (Below.refl w.heap.size w)
  clear h hj hI hB hm
  go_enter Try.func18, Try.ntmps18
  go_wp2_with ((with_reducible refine gate_dst (N := 1) rfl ?_); refine box_event ?hg (N := 1) ?hd (cs := #[.pointer (some ⟨g, 0, none⟩)]) (t := 25) ?hr ?_; (case hd => rfl); (case hg => rfl); (case hr => first | (go_simp; done) | (go_simp; rfl)); intro gb hg w2 hbox hb; have n0_ := Aside0.mk (below_step HB.out hb); have n1_ := Aside0.mk hbox; clear HB; have HB := n0_; have BK := n1_; clear n0_ n1_; clear hb hbox hg; have hz0 : w2.cell? ⟨gb, 0, none⟩ = some (.pointer (some ⟨g, 0, none⟩)) := (blk_cell BK.out 0).trans rfl; obtain ⟨A0, c0, hbq, _, _, _⟩ := HI.out.below HB.out; have hx0 := cellS85_0 hbq; clear hbq)
  go_loopg [12] k (fun kq v12 w' => ∃ (x : Int), v12 = .int .i64 x ∧ Aside0 (tape_Apart.l0 kq s0_0 x = some t) ∧ Aside0 (0 ≤ x) ∧ Aside0 (kq ≤ k) ∧ Aside0 (w'.heap[gb]? = some (.cells #[.pointer (some ⟨g, 0, none⟩)] 25 (0, 0))) ∧ Aside0 (Below w.heap.size w w'))
  case atStart => exact ⟨0, rfl, HJ, ⟨by omega⟩, ⟨Nat.le_refl _⟩, BK, HB⟩
  case round =>
    obtain ⟨x, rfl, HA, HX, HK1, BK, HB⟩ := hrel
    cases gk with
    | zero => exact absurd HA.out (by simp [tape_Apart.l0])
    | succ k1 =>
      have H := HA.out
      clear HA
      simp only [tape_Apart.l0] at H
      by_cases c3 : x < (s0_0.length : Int)
      · rw [if_pos c3] at H
        have c3b0 : decide (x < (s0_0.length : Int)) = true := decide_eq_true c3
        have C3 := Aside0.mk c3
        have HJ1 := Aside0.mk H
        clear H c3
        go_wp2
        go_loopg [16] k1 (fun kq v16 w' => ∃ (y : Int), v16 = .int .i64 y ∧ Aside0 (tape_Apart.l1 kq s0_0 x y = some t) ∧ Aside0 (0 ≤ y) ∧ Aside0 (kq ≤ k1) ∧ Aside0 (w'.heap[gb]? = some (.cells #[.pointer (some ⟨g, 0, none⟩)] 25 (0, 0))) ∧ Aside0 (Below w.heap.size w w'))
        case atStart => exact ⟨0, rfl, HJ1, ⟨by omega⟩, ⟨Nat.le_refl _⟩, BK, HB⟩
        case round =>
          clear HJ1 c3b0
          obtain ⟨y, rfl, HA, HY, HK2, BK, HB⟩ := hrel
          cases gk with
          | zero => exact absurd HA.out (by simp [tape_Apart.l1])
          | succ k2 =>
            have H := HA.out
            clear HA
            simp only [tape_Apart.l1] at H
            by_cases c5 : y < x
            · rw [if_pos c5, if_pos HY.out, if_pos C3.out] at H
              have c5b0 : decide (y < x) = true := decide_eq_true c5
              have C5 := Aside0.mk c5
              have HWy := Aside0.mk (Go.IntWalk.wrap64_in (y + 1) ⟨by have := HY.out; omega, by have := HY.out; have := C3.out; have := (Kd.F_now HI.out.choose_spec.choose_spec.2.2.2).2.1; omega⟩)
              replace H := Option.bind_eq_some_iff.mp H
              obtain ⟨t1, A9, H⟩ := H
              have HS := Aside0.mk A9
              clear A9 c5
              by_cases c10 : t1 = true
              · subst c10
                rw [if_pos rfl] at H
                obtain rfl := Option.some.inj H
                go_wp2_with (go_at_call 76; (refine (tape_same_calls k2 g gb s0_0 s0_1 x y true w0 _ BK.out (HI.out.below HB.out) HX.out C3.out HY.out (by have := C5.out; have := C3.out; omega) HS.out).mono ?_); rintro e w3 ⟨rfl, hb⟩; have HB3 := Aside0.mk (below_step HB.out hb); clear hb)
                go_ret
                exact ⟨rfl, HM.out _ HB3.out⟩
              · rw [if_neg c10] at H
                replace c10 := Bool.eq_false_iff.mpr c10
                subst c10
                have HJ2 := Aside0.mk H
                clear H
                go_wp2_with (go_at_call 76; (refine (tape_same_calls k2 g gb s0_0 s0_1 x y false w0 _ BK.out (HI.out.below HB.out) HX.out C3.out HY.out (by have := C5.out; have := C3.out; omega) HS.out).mono ?_); rintro e w3 ⟨rfl, hb⟩; have HB3 := Aside0.mk (below_step HB.out hb); have BK3 := Aside0.mk (blk_below BK.out hb); clear hb)
                go_roundg k2
                case measure => have := HK1.out; have := HK2.out; omega
                case rel => exact ⟨wrap64 (y + 1), rfl, HJ2, ⟨by rw [HWy.out]; have := HY.out; omega⟩, ⟨by have := HK2.out; omega⟩, BK3, HB3⟩
            · rw [if_neg c5] at H
              have c5b0 : decide (y < x) = false := decide_eq_false c5
              have HJ2 := Aside0.mk H
              have HWx := Aside0.mk (Go.IntWalk.wrap64_in (x + 1) ⟨by have := HX.out; omega, by have := C3.out; have := (Kd.F_now HI.out.choose_spec.choose_spec.2.2.2).2.1; omega⟩)
              clear H c5
              go_wp2
              go_roundg k2
              case measure => have := HK1.out; have := HK2.out; omega
              case rel => exact ⟨wrap64 (x + 1), rfl, HJ2, ⟨by rw [HWx.out]; have := HX.out; omega⟩, ⟨by have := HK1.out; have := HK2.out; omega⟩, BK, HB⟩
      · rw [if_neg c3] at H
        have c3b0 : decide (x < (s0_0.length : Int)) = false := decide_eq_false c3
        obtain rfl := Option.some.inj H
        clear c3 H
        go_wp2
        go_ret
        exact ⟨rfl, HM.out _ HB.out⟩


end Go.Proofs.Ytagoofdopgopoaa.PTapeDraws
