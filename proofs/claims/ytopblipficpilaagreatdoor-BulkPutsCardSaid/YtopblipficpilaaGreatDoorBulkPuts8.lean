/- What is read, in plain words. -/
import Derived.Test.YtopblipficpilaaGreatDoorBulkPuts7
namespace Go.Proofs.YtopblipficpilaaGreatDoor.AY
open Go Go.Proofs
set_option maxRecDepth 100000
set_option linter.unusedVariables false
set_option linter.unusedSimpArgs false

/-- two ways that come to the same, but for the memory -/
theorem AWP.condG {P : Program} {k : Nat} {c : Operand} {x y d : Code} {s : St} {Q : Exit → St → Prop} {t : Bool} (hc : aev s.env c = some (.bool t)) (live : List Nat) (e' : Env) (J : Mem → Prop)
    (h : t = true → AWP P none k x s (Then (fun s' => s'.env.keep live = e' ∧ s'.dfr = [] ∧ J s'.mem) Q)) (h' : t = false → AWP P none k y s (Then (fun s' => s'.env.keep live = e' ∧ s'.dfr = [] ∧ J s'.mem) Q)) (hr : ∀ M', J M' → AWP P none k d ⟨e', M', []⟩ Q) : AWP P none k (.cond c x y) s (Then (fun s' => AWP P none k d s' Q) Q) := by
  have key : ∀ e s', Then (fun s' => s'.env.keep live = e' ∧ s'.dfr = [] ∧ J s'.mem) Q e s' → Then (fun s' => AWP P none k d s' Q) Q e s' := by
    intro e s' hq
    cases e with
    | normal =>
      obtain ⟨h1, h2, h3⟩ := hq
      refine AWP.keep live ?_
      rw [h1, h2]; exact hr _ h3
    | _ => exact hq
  exact AWP.cond_split hc (fun ht => (h ht).mono key) fun ht => (h' ht).mono key


/-- ways through a block that come to the same, but for a value and the memory -/
theorem AWP.seqE {P : Program} {k : Nat} {α : Type} {a d : Code} {s : St} {Q : Exit → St → Prop} (live : List Nat) (e' : α → Env) (J : α → Mem → Prop)
    (h : AWP P none k a s (Then (fun s' => ∃ v, s'.env.keep live = e' v ∧ s'.dfr = [] ∧ J v s'.mem) Q)) (hr : ∀ v M', J v M' → AWP P none k d ⟨e' v, M', []⟩ Q) : AWP P none k a s (Then (fun s' => AWP P none k d s' Q) Q) := by
  have key : ∀ e s', Then (fun s' => ∃ v, s'.env.keep live = e' v ∧ s'.dfr = [] ∧ J v s'.mem) Q e s' → Then (fun s' => AWP P none k d s' Q) Q e s' := by
    intro e s' hq
    cases e with
    | normal =>
      obtain ⟨v, h1, h2, h3⟩ := hq
      refine AWP.keep live ?_
      rw [h1, h2]; exact hr _ _ h3
    | _ => exact hq
  exact h.mono key

section
variable {N : Nat} {M M1 : Mem} {p : Nat} {D : Nat → Prop} {s s' : Rs} {fx : Mm} {R R' : Rw → Prop}
theorem none_keep (hok : Ok M) (hg : GrewX p (M.bump 1) M1) (hp : p ≠ M.next) : M1.get M.next = none := by
  rw [hg.keep M.next (by rw [Mem.next_bump]; omega) (Ne.symm hp), Mem.get_bump]
  cases h : M.get M.next with
  | none => rfl
  | some b => have := hok _ _ h; omega
theorem Lo.num (h : Lo N M p D s fx R) (k : Int) (hl : s.b.length ≤ 1000000) (hb : BytB s.b) (hk : 0 ≤ k ∧ k ≤ 8) :
    ∃ r M', ACall Tryz.prog 59 #[.pointer (some ⟨p, 0, none⟩), .int .i64 k] M r M' ∧ GrewX p M M' ∧ Lo N M' p D (numS s k).1 fx R ∧ r = .int .u64 (numS s k).2 := by
  obtain ⟨r, M', hc, hg, hs, hr⟩ := number59_spec p D s k M h.ok h.rd (by omega) hb hk
  exact ⟨r, M', hc, hg, h.rdr hg hs, hr⟩
theorem Lo.bytes (h : Lo N M p D s fx R) (k : Int) (hl : s.b.length ≤ 1000000) :
    ∃ r M', ACall Tryz.prog 115 #[.pointer (some ⟨p, 0, none⟩), .int .i64 k] M r M' ∧ GrewX p M M' ∧ OwnB M M' r (takeS s k).2 5 ∧ Lo N M' p D (takeS s k).1 fx (fun x => x = ⟨r, (takeS s k).2.length, cB (takeS s k).2, 5⟩ ∨ R x) := by
  obtain ⟨r, M', hc, hg, hs, ho⟩ := bytes115_spec p D s k M h.ok h.rd (by omega)
  exact ⟨r, M', hc, hg, ho, (h.rdr hg hs).add (r := ⟨r, (takeS s k).2.length, cB (takeS s k).2, 5⟩) ho h.next (fun i b hi => ho.apart (.inl (h.fx i b hi).1.2)) fun a ha => own_sep ho (h.rows a ha) (Nat.le_refl _)⟩
/-- a block of its own -/
theorem Lo.box (h : Lo N M p D s fx R) (hg : GrewX p (M.bump 1) M1) (h' : Lo N M1 p D s' fx R') (hR : ∀ r, R' r → R r ∨ Apart r.v M.next) (b : Blk) (ho : isObj b.elem = false := by rfl) : M.next < M1.next ∧ Lo N (M1.put M.next b) p D s' (updM fx M.next b) R' := by
  have hp : p ≠ M.next := by have := h.pN; have := h.next; omega
  have hlt : M.next < M1.next := by have := hg.next; rw [Mem.next_bump] at this; omega
  refine ⟨hlt, h'.new hlt h.next (none_keep h.ok hg hp) (fun r hr => ?_) b ho⟩
  rcases hR r hr with hr | hr
  · exact (h.rows r hr).apart (.inr (Nat.le_refl _))
  · exact hr
end
theorem takeS_ok {s : Rs} {k : Int} (h : (takeS s k).1.code = 0) : s.code = 0 ∧ 0 ≤ k ∧ k ≤ s.b.length ∧ (takeS s k).1.b = s.b.drop k.toNat ∧ (takeS s k).2 = s.b.take k.toNat := by
  unfold takeS at h ⊢
  split at h
  · rename_i h0
    split at h
    · cases h
    · rename_i h1
      rw [if_pos h0, if_neg h1]
      exact ⟨h0, by omega, by omega, rfl, rfl⟩
  · rename_i h0; exact absurd h h0
theorem takeS_on {s : Rs} {k : Int} (h0 : s.code = 0) (h1 : 0 ≤ k) (h2 : k ≤ s.b.length) : takeS s k = (⟨s.b.drop k.toNat, 0⟩, s.b.take k.toNat) := by
  rw [takeS, if_pos h0, if_neg (by omega)]
theorem takeS_in (a b : List Int) {k : Nat} (hk : a.length = k) : takeS ⟨a ++ b, 0⟩ (k : Int) = (⟨b, 0⟩, a) := by
  rw [takeS_on rfl (by omega) (by simp; omega)]
  simp only [Int.toNat_natCast, ← hk, List.drop_left, List.take_left]
theorem numS_b {s : Rs} (hb : BytB s.b) {k : Nat} : 0 ≤ (numS s k).2 ∧ (numS s k).2 < 256 ^ k := by
  have h1 := (takeS_bytes hb k).2
  have h2 := (takeS_len s k).2.2 (by omega)
  have h3 := numN_bound h1 (takeS s k).2.length
  rw [List.take_length] at h3
  refine ⟨h3.1, Int.lt_of_lt_of_le h3.2 ?_⟩
  have : ∀ a b : Nat, a ≤ b → (256 : Int) ^ a ≤ 256 ^ b := fun a b h => by
    exact_mod_cast Nat.pow_le_pow_right (n := 256) (by omega) h
  exact this _ _ (by omega)
theorem numS_b1 {s : Rs} (hb : BytB s.b) : 0 ≤ (numS s 1).2 ∧ (numS s 1).2 < 256 := numS_b (k := 1) hb
theorem numS_bytes {s : Rs} (h : BytB s.b) (k : Int) : BytB (numS s k).1.b := (takeS_bytes h k).1
theorem numS_len (s : Rs) (k : Int) : (numS s k).1.b.length ≤ s.b.length := (takeS_len s k).1

def loopP {α : Type} (f : Rs → Rs × α) : Nat → Rs → Rs × List α
  | 0, s => (s, [])
  | n + 1, s => if s.code = 0 then ((loopP f n (f s).1).1, (f s).2 :: (loopP f n (f s).1).2) else (s, [])
theorem loopP_stop {α : Type} (f : Rs → Rs × α) {c : Nat} {s : Rs} (h : c = 0 ∨ s.code ≠ 0) : loopP f c s = (s, []) := by
  cases c with
  | zero => rfl
  | succ n => rw [loopP, if_neg (by omega)]
theorem loopP_step {α : Type} (f : Rs → Rs × α) {c : Nat} {s : Rs} (h : 0 < c) (h0 : s.code = 0) : loopP f c s = ((loopP f (c - 1) (f s).1).1, (f s).2 :: (loopP f (c - 1) (f s).1).2) := by
  cases c with
  | zero => omega
  | succ n => rw [loopP, if_pos h0, Nat.add_sub_cancel]

theorem numN_putB (s : Nat) : ∀ n : Int, 0 ≤ n → n < 256 ^ s → numN (putB n s) = n := by
  induction s with
  | zero => intro n h0 h1; simp at h1; rw [putB, numN_nil]; omega
  | succ s ih =>
    intro n h0 h1
    rw [Int.pow_succ] at h1
    rw [putB, numN_snoc, ih (n / 256) (by omega) (by omega)]; omega
theorem putB_numN : ∀ (k : Nat) (t : List Int), t.length = k → BytB t → putB (numN t) k = t := by
  intro k
  induction k with
  | zero => intro t h hb; rw [List.length_eq_zero_iff.1 h]; rfl
  | succ k ih =>
    intro t h hb
    have hne : t ≠ [] := by rintro rfl; simp at h
    obtain ⟨u, x, rfl⟩ : ∃ u x, t = u ++ [x] := ⟨t.dropLast, t.getLast hne, (List.dropLast_concat_getLast hne).symm⟩
    have hx := hb x (by simp)
    have hu : BytB u := fun y hy => hb y (by simp [hy])
    rw [numN_snoc, putB, show (numN u * 256 + x) / 256 = numN u by omega, show (numN u * 256 + x) % 256 = x by omega, ih u (by simpa using h) hu]
theorem putB_byt (s : Nat) : ∀ n : Int, BytB (putB n s) := by
  induction s with
  | zero => intro n x hx; cases hx
  | succ s ih =>
    intro n x hx
    rw [putB] at hx
    rcases List.mem_append.1 hx with hx | hx
    · exact ih _ x hx
    · rw [List.mem_singleton.1 hx]; omega
theorem numN_one (x : Int) : numN [x] = x := by simp [numN]
theorem numS_in (x k : Nat) (n : Int) (h0 : 0 ≤ n) (h1 : n < 256 ^ k) (r : List Int) : numS ⟨putB n k ++ r, 0⟩ (k : Int) = (⟨r, 0⟩, n) := by
  rw [numS, takeS_in _ _ (putB_length n k)]
  simp only [numN_putB k n h0 h1]
theorem numS_in1 (n : Int) (r : List Int) : numS ⟨n :: r, 0⟩ 1 = (⟨r, 0⟩, n) := by
  have := takeS_in [n] r (k := 1) rfl
  rw [numS, show (1 : Int) = ((1 : Nat) : Int) from rfl, show n :: r = [n] ++ r from rfl, this]
  simp only [numN_one]
theorem takeS_inZ (a r : List Int) : takeS ⟨a ++ r, 0⟩ (a.length : Int) = (⟨r, 0⟩, a) := takeS_in a r rfl

theorem loopP_in {α : Type} (f : Rs → Rs × α) (B : α → List Int) : ∀ (l : List α) (r : List Int), (∀ a, a ∈ l → ∀ r, f ⟨B a ++ r, 0⟩ = (⟨r, 0⟩, a)) → loopP f l.length ⟨(l.map B).flatten ++ r, 0⟩ = (⟨r, 0⟩, l) := by
  intro l
  induction l with
  | nil => intro r _; rfl
  | cons a l ih =>
    intro r h
    rw [List.length_cons, loopP, if_pos rfl, List.map_cons, List.flatten_cons, List.append_assoc, h a List.mem_cons_self]
    simp only [ih r fun b hb => h b (List.mem_cons_of_mem _ hb)]
/-! ### a page read and written -/
theorem loopP_code {α : Type} (f : Rs → Rs × α) {c : Nat} {s : Rs} (h : (loopP f c s).1.code = 0) : s.code = 0 := by
  cases c with
  | zero => exact h
  | succ n =>
    rw [loopP] at h
    split at h
    · assumption
    · exact h
theorem numS_out {s : Rs} {k : Nat} (hb : BytB s.b) (h : (numS s k).1.code = 0) : s.code = 0 ∧ s.b = putB (numS s k).2 k ++ (numS s k).1.b ∧ BytB (numS s k).1.b := by
  obtain ⟨h1, h2, h3, h4, h5⟩ := takeS_ok (s := s) (k := (k : Int)) h
  have hbt := takeS_bytes hb (k : Int)
  refine ⟨h1, ?_, hbt.1⟩
  have e1 : (numS s (k : Int)).1.b = s.b.drop k := h4
  have e2 : (numS s (k : Int)).2 = numN (s.b.take k) := by show numN (takeS s k).2 = _; rw [h5]; rfl
  rw [e1, e2, putB_numN k _ (by rw [List.length_take]; omega) (fun x hx => hb x (List.mem_of_mem_take hx)), List.take_append_drop]
theorem takeS_out {s : Rs} {k : Int} (h : (takeS s k).1.code = 0) : s.code = 0 ∧ s.b = (takeS s k).2 ++ (takeS s k).1.b ∧ ((takeS s k).2.length : Int) = k := by
  obtain ⟨h1, h2, h3, h4, h5⟩ := takeS_ok h
  refine ⟨h1, by rw [h4, h5, List.take_append_drop], ?_⟩
  rw [h5, List.length_take]; omega
theorem putB_1 (n : Int) (h : 0 ≤ n) (h' : n < 256) : putB n 1 = [n] := by simp [putB]; omega
theorem loopP_out {α : Type} (f : Rs → Rs × α) (B : α → List Int) (T : α → Prop) (hf : ∀ s : Rs, BytB s.b → BytB (f s).1.b) (ho : ∀ s : Rs, BytB s.b → (f s).1.code = 0 → T (f s).2 → s.b = B (f s).2 ++ (f s).1.b) :
    ∀ (c : Nat) (s : Rs), BytB s.b → (loopP f c s).1.code = 0 → (∀ a, a ∈ (loopP f c s).2 → T a) → s.b = ((loopP f c s).2.map B).flatten ++ (loopP f c s).1.b ∧ (loopP f c s).2.length = c := by
  intro c
  induction c with
  | zero => intro s hb h _; exact ⟨by simp [loopP], rfl⟩
  | succ c ih =>
    intro s hb h hT
    have h0 := loopP_code f h
    rw [loopP, if_pos h0] at h hT ⊢
    simp only at h hT ⊢
    have h1 := loopP_code f h
    obtain ⟨g1, g2⟩ := ih (f s).1 (hf s hb) h fun a ha => hT a (List.mem_cons_of_mem _ ha)
    refine ⟨?_, by rw [List.length_cons, g2]⟩
    rw [List.map_cons, List.flatten_cons, List.append_assoc, ← g1]
    exact ho s hb h1 (hT _ List.mem_cons_self)
end Go.Proofs.YtopblipficpilaaGreatDoor.AY

/- octet.Reader's Fail, Text, End. -/
namespace Go.Proofs.YtopblipficpilaaGreatDoor.AY
open Go Go.Proofs
set_option maxRecDepth 100000
set_option linter.unusedVariables false
set_option linter.unusedSimpArgs false


theorem numS_b4 {s : Rs} (hb : BytB s.b) : 0 ≤ (numS s 4).2 ∧ (numS s 4).2 < 4294967296 := numS_b (k := 4) hb
theorem failS_b (s : Rs) (c : Int) : (failS s c).b = s.b := by unfold failS; split <;> rfl
def capS (a : Rs × Int) : Rs := if a.1.code = 0 ∧ a.2 > 262144 then failS a.1 4 else a.1
/-- a text with its length ahead -/
def textS (s : Rs) : Rs × List Int := if (capS (numS s 4)).code ≠ 0 then (capS (numS s 4), []) else takeS (capS (numS s 4)) (numS s 4).2
def endS (s : Rs) : Rs := if (s.b.length : Int) > 0 then failS s 4 else s
theorem capS_b (a : Rs × Int) : (capS a).b = a.1.b := by unfold capS; split <;> first | rfl | exact failS_b _ _
theorem textS_bytes {s : Rs} (h : BytB s.b) : BytB (textS s).1.b ∧ BytB (textS s).2 := by
  unfold textS
  have h4 := numS_bytes h 4
  split
  · exact ⟨by rw [capS_b]; exact h4, fun x hx => by cases hx⟩
  · exact takeS_bytes (by rw [capS_b]; exact h4) _
theorem textS_len (s : Rs) : (textS s).1.b.length ≤ s.b.length ∧ (textS s).2.length ≤ s.b.length := by
  unfold textS
  have h4 := numS_len s 4
  split
  · rw [capS_b]; exact ⟨h4, by simp⟩
  · have := takeS_len (capS (numS s 4)) (numS s 4).2
    rw [capS_b] at this
    exact ⟨by omega, by omega⟩
section
variable {N : Nat} {M M1 : Mem} {p : Nat} {D : Nat → Prop} {s s' : Rs} {fx : Mm} {R R' : Rw → Prop}
theorem Lo.fail (h : Lo N M p D s fx R) (c : Int) :
    ∃ r M', ACall Tryz.prog 60 #[.pointer (some ⟨p, 0, none⟩), .int .i64 c] M r M' ∧ GrewX p M M' ∧ Lo N M' p D (failS s c) fx R := by
  obtain ⟨vb, hh, hv, hDp, hD⟩ := h.rd
  have hap := hD p hDp
  refine ACall.fin (args := [.pointer (some ⟨p, 0, none⟩), .int .i64 c]) (k := 13) (rs := []) Tryz.func60 rfl rfl rfl (Nat.le_of_ble_eq_true rfl) ?_
  refine AWP.stepR [0, 1, 8] fun K hK => ?_
  simp only [go_sem, Nat.reduceEqDiff, Nat.reduceLT, Nat.reduceAdd, Nat.reduceMul, Nat.reduceSub, Nat.add_zero, Nat.zero_add, Int.reduceEq, Int.reduceLT, ld_35, hh.ld]
  refine hK _ _ _ (by simp only [go_sem, Nat.reduceEqDiff, Nat.reduceLT, Nat.reduceAdd, Nat.reduceMul, Nat.reduceSub, Nat.add_zero, Nat.zero_add, Int.reduceEq, Int.reduceLT]; rfl) ?_; clear hK
  refine AWP.cond_split rfl (fun h8 => ?_) fun h8 => ?_
  · have h0 : s.code = 0 := by simpa using h8
    have fs : stV M p 1 1 (.int .i64 c) = some (M.put p ⟨[vb, .int .i64 c], 204, true⟩) := st_cellX (o := 1) hh rfl (show 1 < 2 by decide) rfl
    refine AWP.lastR fun K hK => ?_
    simp only [go_sem, Nat.reduceEqDiff, Nat.reduceLT, Nat.reduceAdd, Nat.reduceMul, Nat.reduceSub, Nat.add_zero, Nat.zero_add, Int.reduceEq, Int.reduceLT, st_35, fs]
    refine hK _ _ ?_; clear hK
    have hh2 : Has (M.put p ⟨[vb, .int .i64 c], 204, true⟩) p ⟨[vb, .int .i64 c], 204, true⟩ := Has.put hh.2 _
    have hg2 : GrewX p M (M.put p ⟨[vb, .int .i64 c], 204, true⟩) := (GrewX.refl p M).put hh.2 _
    refine Fin.keep ⟨.inl rfl, rfl⟩ rfl ⟨hg2, h.rdr hg2 ?_⟩
    rw [failS, if_pos h0]
    exact ⟨vb, hh2, hv.x hg2 hap, hDp, hD⟩
  · have h0 : s.code ≠ 0 := by simpa using h8
    refine AWP.skip ?_
    refine Fin.keep ⟨.inl rfl, rfl⟩ rfl ⟨GrewX.refl p M, ?_⟩
    rw [failS, if_neg h0]
    exact h

theorem Lo.text (h : Lo N M p D s fx R) (hl : s.b.length ≤ 1000000) (hb : BytB s.b) :
    ∃ r M', ACall Tryz.prog 62 #[.pointer (some ⟨p, 0, none⟩), .int .i64 4, .int .i64 262144] M r M' ∧ GrewX p M M' ∧ OwnB M M' r (textS s).2 5 ∧ Lo N M' p D (textS s).1 fx (fun x => x = ⟨r, (textS s).2.length, cB (textS s).2, 5⟩ ∨ R x) := by
  refine ACall.fin (args := [.pointer (some ⟨p, 0, none⟩), .int .i64 4, .int .i64 262144]) (k := 34) (rs := [.tmp 6]) Tryz.func62 rfl rfl rfl (Nat.le_of_ble_eq_true rfl) ?_
  obtain ⟨r1, M1, hc1, hg1, hs1, rfl⟩ := number59_spec p D s 4 M h.ok h.rd (by omega) hb (by omega)
  have h1 : Lo N M1 p D (numS s 4).1 fx R := h.rdr hg1 hs1
  have hn := numS_b4 hb
  have hl4 := numS_len s 4
  refine AWP.stepR [0, 1, 2] fun K hK => ?_
  simp only [go_sem, Nat.reduceEqDiff, Nat.reduceLT, Nat.reduceAdd, Nat.reduceMul, Nat.reduceSub, Nat.add_zero, Nat.zero_add, Int.reduceEq, Int.reduceLT]
  refine hK _ _ _ (by simp only [go_sem, Nat.reduceEqDiff, Nat.reduceLT, Nat.reduceAdd, Nat.reduceMul, Nat.reduceSub, Nat.add_zero, Nat.zero_add, Int.reduceEq, Int.reduceLT]; rfl) ?_; clear hK
  refine AWP.stepR [0, 2, 7] fun K hK => ?_
  simp only [go_sem, Nat.reduceEqDiff, Nat.reduceLT, Nat.reduceAdd, Nat.reduceMul, Nat.reduceSub, Nat.add_zero, Nat.zero_add, Int.reduceEq, Int.reduceLT]
  refine ⟨_, _, hc1, ?_⟩
  refine hK _ _ _ (by simp only [go_sem, Nat.reduceEqDiff, Nat.reduceLT, Nat.reduceAdd, Nat.reduceMul, Nat.reduceSub, Nat.add_zero, Nat.zero_add, Int.reduceEq, Int.reduceLT]; rfl) ?_; clear hK
  refine AWP.seq ?_
  obtain ⟨vb, hh, _⟩ := hs1
  refine AWP.stepX [0, 7, 22] [(0, .pointer (some ⟨p, 0, none⟩)), (7, .int .u64 (numS s 4).2), (22, .bool (decide ((numS s 4).1.code = 0 ∧ (numS s 4).2 > 262144)))] M1 (fun K hK => ?_) ?_
  · by_cases h0 : (numS s 4).1.code = 0
    · simp only [go_sem, Nat.reduceEqDiff, Nat.reduceLT, Nat.reduceAdd, Nat.reduceMul, Nat.reduceSub, Nat.add_zero, Nat.zero_add, Int.reduceEq, Int.reduceLT, ld_35, hh.ld, h0, show ((0 : Int) == 0) = true from rfl, extremeV, cond_true, show (if (0 : Int) > 262144 then (0 : Int) else 262144) = 262144 from rfl, u64w (n := 262144) (by omega) (by omega)]
      refine hK _ ?_
      simp only [go_sem, Nat.reduceEqDiff, Nat.reduceLT, Nat.reduceAdd, Nat.reduceMul, Nat.reduceSub, Nat.add_zero, Nat.zero_add, Int.reduceEq, Int.reduceLT]
      simp [h0]
    · simp only [go_sem, Nat.reduceEqDiff, Nat.reduceLT, Nat.reduceAdd, Nat.reduceMul, Nat.reduceSub, Nat.add_zero, Nat.zero_add, Int.reduceEq, Int.reduceLT, ld_35, hh.ld, show ((numS s 4).1.code == 0) = false by simp [h0]]
      refine hK _ ?_
      simp only [go_sem, Nat.reduceEqDiff, Nat.reduceLT, Nat.reduceAdd, Nat.reduceMul, Nat.reduceSub, Nat.add_zero, Nat.zero_add, Int.reduceEq, Int.reduceLT]
      rw [decide_eq_false (fun hh => h0 hh.1)]
  refine AWP.condG rfl [0, 7] [(0, .pointer (some ⟨p, 0, none⟩)), (7, .int .u64 (numS s 4).2)] (fun M' => GrewX p M M' ∧ Lo N M' p D (capS (numS s 4)) fx R) (fun h22 => ?_) (fun h22 => ?_) fun M2 h2 => ?_
  · obtain ⟨r3, M3, hc3, hg3, h3⟩ := h1.fail 4
    refine AWP.lastR fun K hK => ?_
    simp only [go_sem, Nat.reduceEqDiff, Nat.reduceLT, Nat.reduceAdd, Nat.reduceMul, Nat.reduceSub, Nat.add_zero, Nat.zero_add, Int.reduceEq, Int.reduceLT]
    refine ⟨_, _, hc3, ?_⟩
    refine hK _ _ ?_; clear hK
    refine ⟨by simp only [go_sem, Nat.reduceEqDiff, Nat.reduceLT, Nat.reduceAdd, Nat.reduceMul, Nat.reduceSub, Nat.add_zero, Nat.zero_add, Int.reduceEq, Int.reduceLT], rfl, hg1.trans hg3, ?_⟩
    rw [capS, if_pos (of_decide_eq_true h22)]; exact h3
  · refine AWP.skip ?_
    refine ⟨by simp only [go_sem, Nat.reduceEqDiff, Nat.reduceLT, Nat.reduceAdd, Nat.reduceMul, Nat.reduceSub, Nat.add_zero, Nat.zero_add, Int.reduceEq, Int.reduceLT], rfl, hg1, ?_⟩
    rw [capS, if_neg (of_decide_eq_false h22)]; exact h1
  obtain ⟨hg2, h2⟩ := h2
  obtain ⟨vb2, hh2, _⟩ := h2.rd
  refine AWP.seq ?_
  refine AWP.stepR [0, 7, 29] fun K hK => ?_
  simp only [go_sem, Nat.reduceEqDiff, Nat.reduceLT, Nat.reduceAdd, Nat.reduceMul, Nat.reduceSub, Nat.add_zero, Nat.zero_add, Int.reduceEq, Int.reduceLT, ld_35, hh2.ld]
  refine hK _ _ _ (by simp only [go_sem, Nat.reduceEqDiff, Nat.reduceLT, Nat.reduceAdd, Nat.reduceMul, Nat.reduceSub, Nat.add_zero, Nat.zero_add, Int.reduceEq, Int.reduceLT]; rfl) ?_; clear hK
  refine AWP.cond_split rfl (fun h29 => ?_) fun h29 => ?_
  · have h0 : (capS (numS s 4)).code ≠ 0 := by simpa using h29
    refine AWP.stepR [6] fun K hK => ?_
    simp only [go_sem, Nat.reduceEqDiff, Nat.reduceLT, Nat.reduceAdd, Nat.reduceMul, Nat.reduceSub, Nat.add_zero, Nat.zero_add, Int.reduceEq, Int.reduceLT]
    refine hK _ _ _ (by simp only [go_sem, Nat.reduceEqDiff, Nat.reduceLT, Nat.reduceAdd, Nat.reduceMul, Nat.reduceSub, Nat.add_zero, Nat.zero_add, Int.reduceEq, Int.reduceLT]; rfl) ?_; clear hK
    refine AWP.ret (Then.ret (?_))
    refine Fin.keep ⟨.inr rfl, rfl⟩ rfl ⟨hg2, ?_, ?_⟩
    · rw [textS, if_pos h0]; exact Own.nil _ _ _
    · rw [textS, if_pos h0]
      exact h2.add (Mb := M2) (r := ⟨.slice none 0 0, 0, [], 5⟩) (Own.nil _ _ _) h2.next (fun i b hi => Apart.nil _) (fun a ha => Sep.nil _)
  · have h0 : (capS (numS s 4)).code = 0 := by simpa using h29
    obtain ⟨r4, M4, hc4, hg4, ho4, h4⟩ : ∃ r M', ACall Tryz.prog 115 #[.pointer (some ⟨p, 0, none⟩), .int .i64 (numS s 4).2] M2 r M' ∧ GrewX p M2 M' ∧ OwnB M2 M' r (takeS (capS (numS s 4)) (numS s 4).2).2 5 ∧ Lo N M' p D (takeS (capS (numS s 4)) (numS s 4).2).1 fx (fun x => x = ⟨r, (takeS (capS (numS s 4)) (numS s 4).2).2.length, cB (takeS (capS (numS s 4)) (numS s 4).2).2, 5⟩ ∨ R x) := by
      obtain ⟨r, M', hc, hg, hs, ho⟩ := bytes115_spec p D (capS (numS s 4)) (numS s 4).2 M2 h2.ok h2.rd (by rw [capS_b]; omega)
      exact ⟨r, M', hc, hg, ho, (h2.rdr hg hs).add (r := ⟨r, _, _, 5⟩) ho h2.next (fun i b hi => ho.apart (.inl (h2.fx i b hi).1.2)) fun a ha => own_sep ho (h2.rows a ha) (Nat.le_refl _)⟩
    refine AWP.skip ?_
    refine AWP.stepR [6] fun K hK => ?_
    simp only [go_sem, Nat.reduceEqDiff, Nat.reduceLT, Nat.reduceAdd, Nat.reduceMul, Nat.reduceSub, Nat.add_zero, Nat.zero_add, Int.reduceEq, Int.reduceLT, i64w (n := (numS s 4).2) (by omega) (by omega)]
    refine ⟨_, _, hc4, ?_⟩
    refine hK _ _ _ (by simp only [go_sem, Nat.reduceEqDiff, Nat.reduceLT, Nat.reduceAdd, Nat.reduceMul, Nat.reduceSub, Nat.add_zero, Nat.zero_add, Int.reduceEq, Int.reduceLT]; rfl) ?_; clear hK
    refine AWP.ret (?_)
    refine Fin.keep ⟨.inr rfl, rfl⟩ rfl ⟨hg2.trans hg4, ?_, ?_⟩
    · rw [textS, if_neg (by simpa using h0)]; exact ho4.base hg2.next
    · rw [textS, if_neg (by simpa using h0)]; exact h4

theorem Lo.end_ (h : Lo N M p D s fx R) (hl : s.b.length ≤ 1000000) :
    ∃ r M', ACall Tryz.prog 63 #[.pointer (some ⟨p, 0, none⟩)] M r M' ∧ GrewX p M M' ∧ r = .int .i64 (endS s).code ∧ Lo N M' p D (endS s) fx R := by
  refine ACall.fin (args := [.pointer (some ⟨p, 0, none⟩)]) (k := 15) (rs := [.tmp 2]) Tryz.func63 rfl rfl rfl (Nat.le_of_ble_eq_true rfl) ?_
  obtain ⟨vb, hh, hv, _⟩ := h.rd
  refine AWP.stepR [0] fun K hK => ?_
  simp only [go_sem, Nat.reduceEqDiff, Nat.reduceLT, Nat.reduceAdd, Nat.reduceMul, Nat.reduceSub, Nat.add_zero, Nat.zero_add, Int.reduceEq, Int.reduceLT]
  refine hK _ _ _ (by simp only [go_sem, Nat.reduceEqDiff, Nat.reduceLT, Nat.reduceAdd, Nat.reduceMul, Nat.reduceSub, Nat.add_zero, Nat.zero_add, Int.reduceEq, Int.reduceLT]; rfl) ?_; clear hK
  refine AWP.seq ?_
  refine AWP.stepR [0, 8] fun K hK => ?_
  simp only [go_sem, Nat.reduceEqDiff, Nat.reduceLT, Nat.reduceAdd, Nat.reduceMul, Nat.reduceSub, Nat.add_zero, Nat.zero_add, Int.reduceEq, Int.reduceLT, ld_42, hh.ld, hv.row.len es_42]
  refine hK _ _ _ (by simp only [go_sem, Nat.reduceEqDiff, Nat.reduceLT, Nat.reduceAdd, Nat.reduceMul, Nat.reduceSub, Nat.add_zero, Nat.zero_add, Int.reduceEq, Int.reduceLT]; rfl) ?_; clear hK
  refine AWP.condG rfl [0] [(0, .pointer (some ⟨p, 0, none⟩))] (fun M' => GrewX p M M' ∧ Lo N M' p D (endS s) fx R) (fun h8 => ?_) (fun h8 => ?_) fun M2 h2 => ?_
  · obtain ⟨r3, M3, hc3, hg3, h3⟩ := h.fail 4
    refine AWP.lastR fun K hK => ?_
    simp only [go_sem, Nat.reduceEqDiff, Nat.reduceLT, Nat.reduceAdd, Nat.reduceMul, Nat.reduceSub, Nat.add_zero, Nat.zero_add, Int.reduceEq, Int.reduceLT]
    refine ⟨_, _, hc3, ?_⟩
    refine hK _ _ ?_; clear hK
    refine ⟨by simp only [go_sem, Nat.reduceEqDiff, Nat.reduceLT, Nat.reduceAdd, Nat.reduceMul, Nat.reduceSub, Nat.add_zero, Nat.zero_add, Int.reduceEq, Int.reduceLT], rfl, hg3, ?_⟩
    rw [endS, if_pos (of_decide_eq_true h8)]; exact h3
  · refine AWP.skip ?_
    refine ⟨by simp only [go_sem, Nat.reduceEqDiff, Nat.reduceLT, Nat.reduceAdd, Nat.reduceMul, Nat.reduceSub, Nat.add_zero, Nat.zero_add, Int.reduceEq, Int.reduceLT], rfl, GrewX.refl _ _, ?_⟩
    rw [endS, if_neg (of_decide_eq_false h8)]; exact h
  obtain ⟨hg2, h2⟩ := h2
  obtain ⟨vb2, hh2, _⟩ := h2.rd
  refine AWP.stepR [2] fun K hK => ?_
  simp only [go_sem, Nat.reduceEqDiff, Nat.reduceLT, Nat.reduceAdd, Nat.reduceMul, Nat.reduceSub, Nat.add_zero, Nat.zero_add, Int.reduceEq, Int.reduceLT, ld_35, hh2.ld]
  refine hK _ _ _ (by simp only [go_sem, Nat.reduceEqDiff, Nat.reduceLT, Nat.reduceAdd, Nat.reduceMul, Nat.reduceSub, Nat.add_zero, Nat.zero_add, Int.reduceEq, Int.reduceLT]; rfl) ?_; clear hK
  refine AWP.ret (?_)
  exact Fin.keep ⟨.inr rfl, rfl⟩ rfl ⟨hg2, rfl, h2⟩

end
end Go.Proofs.YtopblipficpilaaGreatDoor.AY

/- A reader by value: what it takes, a number, bytes. -/
namespace Go.Proofs.YtopblipficpilaaGreatDoor.AY
open Go Go.Proofs
set_option maxRecDepth 100000
set_option linter.unusedVariables false
set_option linter.unusedSimpArgs false

attribute [go_sem] implies_true false_implies true_implies Bool.false_eq_true List.any_cons List.any_nil Bool.or_false Bool.false_or Bool.and_false Bool.false_and Bool.true_or Bool.or_true and_true eq_self
theorem st_fresh {M : Mem} {i n : Nat} {old vs : List Value} {e : TypeId} (h1 : old.length = n) (h2 : vs.length = n) (h3 : oneCells vs = true) (ho : isObj e = false := by rfl) :
    stV (M.put i ⟨old, e, true⟩) i 0 n (.agg vs.toArray) = some ((M.put i ⟨old, e, true⟩).put i ⟨vs, e, true⟩) := by
  rw [stV_at (rowsOf_of (b := ⟨old, e, true⟩) (by rw [Mem.get_put, if_pos rfl]) ho)]
  rw [if_pos ⟨rfl, by simpa [Value.cells] using h2, by simpa [Value.cells] using h3, by simp [h1]⟩]
  have : splice old 0 vs = vs := by simp [splice, h1, h2]
  simp only [Value.cells, this]

theorem st_all {M : Mem} {i n : Nat} {blk : Blk} {vs : List Value} (h : Has M i blk) (hrw : blk.rw = true) (hl : blk.cells.length = n) (hv : vs.length = n) (ho : oneCells vs = true) : stV M i 0 n (.agg vs.toArray) = some (M.put i ⟨vs, blk.elem, blk.rw⟩) := by
  rw [stV_at h.1, if_pos ⟨hrw, by simpa [Value.cells] using hv, by simpa [Value.cells] using ho, by omega⟩]
  have : splice blk.cells 0 vs = vs := by simp [splice, hl, hv]
  simp only [Value.cells, this]

theorem slice_23h {M : Mem} {v : Value} {l : List Int} (h : RowE M v l.length (cB l) 5) {k : Nat} (hk : k ≤ l.length) :
    ∃ v', (∀ M1, Grew M M1 → sliceV Tryz.prog M1.get 42 v none (some (.int .i64 k)) none = some v') ∧ RowE M v' (l.take k).length (cB (l.take k)) 5 := by
  obtain ⟨i, hi, hs⟩ := Option.map_eq_some_iff.1 (show (Tryz.prog.info? 5).map (·.size) = some 1 by kernel_rfl)
  have ht : Tryz.prog.underlying 42 = some (.slice 5) := by kernel_rfl
  obtain ⟨b, o, c, blk, rfl, hcn, hb, he, h4, h5⟩ := h
  have hcs : Tryz.prog.cellsOf blk.elem = i.size := by rw [he]; exact cellsOf_eq hi
  rw [cB_length] at h4 h5
  have hbk2 : ∀ z y, k ≤ y → boundV (some (.int .i64 (k : Int))) z y = some k := fun z y hy => by
    simp only [boundV]; rw [if_pos ⟨by omega, by omega⟩]; simp
  refine ⟨.slice (some ⟨b, o, none⟩) k c, ?_, ⟨b, o, c, blk, by rw [List.length_take, Nat.min_eq_left hk], by rw [List.length_take]; omega, hb, he, ?_, ?_⟩⟩
  · intro M1 hg
    simp only [sliceV, ht, (rowsOf_some (hb.grew hg).1).1, hi, hcs, Option.isSome_some, Option.isNone_some, Option.isSome_none, Option.isNone_none, Bool.false_eq_true, and_false, not_false_eq_true, and_self, if_true, true_and, false_and, if_false]
    rw [show boundV none (if c = unk then l.length else c) (if c = unk then l.length else c) = some (if c = unk then l.length else c) from rfl]
    simp only
    rw [hbk2 _ (if c = unk then l.length else c) (by split <;> omega)]
    simp only [show boundV none 0 k = some 0 from rfl]
    congr 1
    split <;> simp_all
  · rw [cB_length, List.length_take]; omega
  · rw [cB_length, List.length_take, Nat.min_eq_left hk]
    have := congrArg (List.take k) h5
    rw [List.take_take, Nat.min_eq_left hk] at this
    rw [this, cB, cB, List.map_take]
theorem slice_23l {M : Mem} {v : Value} {l : List Int} (h : RowE M v l.length (cB l) 5) {k : Nat} (hk : k ≤ l.length) :
    ∃ v', (∀ M1, Grew M M1 → sliceV Tryz.prog M1.get 42 v (some (.int .i64 k)) none none = some v') ∧ RowE M v' (l.drop k).length (cB (l.drop k)) 5 := by
  obtain ⟨i, hi, hs⟩ := Option.map_eq_some_iff.1 (show (Tryz.prog.info? 5).map (·.size) = some 1 by kernel_rfl)
  have ht : Tryz.prog.underlying 42 = some (.slice 5) := by kernel_rfl
  obtain ⟨b, o, c, blk, rfl, hcn, hb, he, h4, h5⟩ := h
  have hcs : Tryz.prog.cellsOf blk.elem = i.size := by rw [he]; exact cellsOf_eq hi
  rw [cB_length] at h4 h5
  have hbk : ∀ y, k ≤ y → boundV (some (.int .i64 (k : Int))) 0 y = some k := fun y hy => by
    simp only [boundV]; rw [if_pos ⟨by omega, by omega⟩]; simp
  refine ⟨.slice (some ⟨b, o + k, none⟩) (l.length - k) (if c = unk then unk else c - k), ?_, ⟨b, o + k, _, blk, by rw [List.length_drop], by rw [List.length_drop]; split <;> omega, hb, he, ?_, ?_⟩⟩
  · intro M1 hg
    simp only [sliceV, ht, (rowsOf_some (hb.grew hg).1).1, hi, hcs, Option.isSome_none, Option.isNone_none, Bool.false_eq_true, false_and, not_false_eq_true, and_self, if_true, true_and]
    rw [show boundV none (if c = unk then l.length else c) (if c = unk then l.length else c) = some (if c = unk then l.length else c) from rfl]
    simp only [show ∀ y, boundV none l.length y = some l.length from fun _ => rfl, hbk l.length hk, hs, Nat.mul_one]
    congr 1
    split <;> simp_all
  · rw [cB_length, List.length_drop]; omega
  · rw [cB_length, List.length_drop]
    have := congrArg (List.drop k) h5
    rw [List.drop_take, List.drop_drop] at this
    rw [this, cB, cB, List.map_drop]
theorem get116_spec (v : Value) (l : List Int) (M : Mem) (hok : Ok M) (hv : RowB M v l) (hb : BytB l) (hl : l.length ≤ 8) : ∃ r M', ACall Tryz.prog 116 #[v] M r M' ∧ r = .int .u64 (numN l) ∧ M' = M := by
  refine ACall.fin (args := [v]) (k := 20) (rs := [.tmp 2]) Tryz.func116 rfl rfl rfl (Nat.le_of_ble_eq_true rfl) ?_
  refine AWP.stepR [0] fun K hK => ?_
  simp only [go_sem, Nat.reduceEqDiff, Nat.reduceLT, Nat.reduceAdd, Nat.reduceMul, Nat.reduceSub, Nat.add_zero, Nat.zero_add, Int.reduceEq, Int.reduceLT]
  refine hK _ _ _ (by simp only [go_sem, Nat.reduceEqDiff, Nat.reduceLT, Nat.reduceAdd, Nat.reduceMul, Nat.reduceSub, Nat.add_zero, Nat.zero_add, Int.reduceEq, Int.reduceLT]; rfl) ?_; clear hK
  refine AWP.stepR [0, 3] fun K hK => ?_
  simp only [go_sem, Nat.reduceEqDiff, Nat.reduceLT, Nat.reduceAdd, Nat.reduceMul, Nat.reduceSub, Nat.add_zero, Nat.zero_add, Int.reduceEq, Int.reduceLT]
  refine hK _ _ _ (by simp only [go_sem, Nat.reduceEqDiff, Nat.reduceLT, Nat.reduceAdd, Nat.reduceMul, Nat.reduceSub, Nat.add_zero, Nat.zero_add, Int.reduceEq, Int.reduceLT]; rfl) ?_; clear hK
  refine AWP.seq ?_
  refine AWP.stepR [0, 3, 4] fun K hK => ?_
  simp only [go_sem, Nat.reduceEqDiff, Nat.reduceLT, Nat.reduceAdd, Nat.reduceMul, Nat.reduceSub, Nat.add_zero, Nat.zero_add, Int.reduceEq, Int.reduceLT]
  refine hK _ _ _ (by simp only [go_sem, Nat.reduceEqDiff, Nat.reduceLT, Nat.reduceAdd, Nat.reduceMul, Nat.reduceSub, Nat.add_zero, Nat.zero_add, Int.reduceEq, Int.reduceLT]; rfl) ?_; clear hK
  refine AWP.block ?_ -- b0
  refine AWP.loopK [0, 3, 4] (fun n e M0 => M0 = M ∧ n ≤ l.length ∧ e = [(0, v), (3, .int .u64 (numN (l.take (l.length - n)))), (4, .int .i64 ((l.length - n : Nat) : Int))]) l.length ?_ fun n e M0 hI => ?_ -- LOOP
  · simp only [go_sem, Nat.reduceEqDiff, Nat.reduceLT, Nat.reduceAdd, Nat.reduceMul, Nat.reduceSub, Nat.add_zero, Nat.zero_add, Int.reduceEq, Int.reduceLT, true_and, Nat.le_refl]
    simp [numN]
  obtain ⟨rfl, hn, rfl⟩ := hI
  refine AWP.seq ?_
  refine AWP.stepR [0, 3, 4, 8] fun K hK => ?_
  simp only [go_sem, Nat.reduceEqDiff, Nat.reduceLT, Nat.reduceAdd, Nat.reduceMul, Nat.reduceSub, Nat.add_zero, Nat.zero_add, Int.reduceEq, Int.reduceLT, hv.len es_42]
  refine hK _ _ _ (by simp only [go_sem, Nat.reduceEqDiff, Nat.reduceLT, Nat.reduceAdd, Nat.reduceMul, Nat.reduceSub, Nat.add_zero, Nat.zero_add, Int.reduceEq, Int.reduceLT]; rfl) ?_; clear hK
  refine AWP.cond_split rfl (fun h8 => ?_) fun h8 => ?_
  · have hlt : l.length - n < l.length := by simpa using h8
    obtain ⟨b, q, ha, hd⟩ := hv.at1 (by simp [cB]) es_42 hlt
    have hd := hd M0 (Grew.refl _)
    rw [show (cB l)[l.length - n]? = some (.int .u8 l[l.length - n]) by simp [cB, hlt]] at hd
    have hx := hb _ (List.getElem_mem hlt)
    have hst := List.take_succ_eq_append_getElem hlt
    have hbd := numN_bound hb (l.length - n)
    have hp := pow256 (n := (l.take (l.length - n)).length) (by rw [List.length_take]; omega)
    generalize l[l.length - n] = x at hd hx hst
    refine AWP.skip ?_
    refine AWP.seq ?_
    refine AWP.block ?_ -- b1
    refine AWP.lastR fun K hK => ?_
    simp only [go_sem, Nat.reduceEqDiff, Nat.reduceLT, Nat.reduceAdd, Nat.reduceMul, Nat.reduceSub, Nat.add_zero, Nat.zero_add, Int.reduceEq, Int.reduceLT, ha, hd, ld_5]
    refine hK _ _ ?_; clear hK
    refine AWP.lastR fun K hK => ?_
    simp only [go_sem, Nat.reduceEqDiff, Nat.reduceLT, Nat.reduceAdd, Nat.reduceMul, Nat.reduceSub, Nat.add_zero, Nat.zero_add, Int.reduceEq, Int.reduceLT]
    refine hK _ _ ?_; clear hK
    refine ⟨rfl, n - 1, by omega, rfl, by omega, ?_⟩ -- ROUND
    simp only [go_sem, Nat.reduceEqDiff, Nat.reduceLT, Nat.reduceAdd, Nat.reduceMul, Nat.reduceSub, Nat.add_zero, Nat.zero_add, Int.reduceEq, Int.reduceLT]
    have e1 : IntKind.u64.wrap (IntKind.u64.wrap (numN (l.take (l.length - n)) * 256) + IntKind.u64.wrap x) = numN (l.take (l.length - (n - 1))) := by
      rw [u64w (n := x) hx.1 (by omega), u64w (n := numN (l.take (l.length - n)) * 256) (by omega) (by omega), u64w (by omega) (by omega), show l.length - (n - 1) = l.length - n + 1 by omega, hst, numN_snoc]
    have e2 : IntKind.i64.wrap (((l.length - n : Nat) : Int) + 1) = ((l.length - (n - 1) : Nat) : Int) := by rw [i64w (by omega) (by omega)]; omega
    rw [e1, e2]
  · refine AWP.exit (Then.exit (Then.exit (InBlock.same ?_)))
    have hn0 : n = 0 := by simp at h8; omega
    subst hn0
    rw [Nat.sub_zero, List.take_length]
    refine AWP.stepR [2] fun K hK => ?_
    simp only [go_sem, Nat.reduceEqDiff, Nat.reduceLT, Nat.reduceAdd, Nat.reduceMul, Nat.reduceSub, Nat.add_zero, Nat.zero_add, Int.reduceEq, Int.reduceLT]
    refine hK _ _ _ (by simp only [go_sem, Nat.reduceEqDiff, Nat.reduceLT, Nat.reduceAdd, Nat.reduceMul, Nat.reduceSub, Nat.add_zero, Nat.zero_add, Int.reduceEq, Int.reduceLT]; rfl) ?_; clear hK
    refine AWP.ret (?_)
    exact Fin.plain ⟨.inr rfl, rfl⟩ rfl rfl hok (Grew.refl _) ⟨rfl, rfl⟩

theorem bd_134 {v : Value} (h : v.oneCell' = true) : buildV Tryz.prog 134 [(0, v)] = some (.agg #[v, .int .i64 0]) := by
  cases v <;> first | rfl | (simp [Value.oneCell'] at h)
def rdC (v : Value) (c : Int) : List Value := [v, .int .i64 c]
theorem rdC_len (v : Value) (c : Int) : (rdC v c).length = 2 := rfl
theorem rdC_one {v : Value} {c : Int} (h : v.oneCell' = true) : oneCells (rdC v c) = true := by simp only [oneCells, rdC, List.all_cons, List.all_nil, h]; rfl
/-- two blocks: what was handed in, and a reader to come -/
theorem box2 (M : Mem) (v : Value) (c : Int) : ∃ M1, ((M.bump 2).put M.next ⟨rdC v c, 134, true⟩).put (M.next + 1) ⟨rdC (.slice none 0 0) 0, 134, true⟩ = M1 ∧ Grew M M1 ∧ Has M1 M.next ⟨rdC v c, 134, true⟩ ∧ Has M1 (M.next + 1) ⟨rdC (.slice none 0 0) 0, 134, true⟩ ∧ M1.next = M.next + 2 := by
  have hlt1 : M.next < (M.bump 2).next := by rw [Mem.next_bump]; omega
  have hlt2 : M.next + 1 < (M.bump 2).next := by rw [Mem.next_bump]; omega
  obtain ⟨hg1, hh1⟩ := mk_put ((Grew.refl M).bump 2) (Nat.le_refl _) hlt1 ⟨rdC v c, 134, true⟩
  obtain ⟨hg2, hh2⟩ := mk_put hg1 (show M.next ≤ M.next + 1 by omega) (show M.next + 1 < ((M.bump 2).put M.next ⟨rdC v c, 134, true⟩).next from hlt2) ⟨rdC (.slice none 0 0) 0, 134, true⟩
  exact ⟨_, rfl, hg2, hh1.put' (show M.next ≠ M.next + 1 by omega) _, hh2, rfl⟩

theorem fail117_spec (vb : Value) (s : Rs) (c : Int) (M : Mem) (hok : Ok M) (h1 : vb.oneCell' = true) :
    ∃ r M', ACall Tryz.prog 117 #[.agg (rdC vb s.code).toArray, .int .i64 c] M r M' ∧ Grew M M' ∧ r = .agg (rdC vb (failS s c).code).toArray := by
  refine ACall.fin (args := [.agg (rdC vb s.code).toArray, .int .i64 c]) (k := 13) (rs := [.cell 4 134]) Tryz.func117 rfl rfl rfl (Nat.le_of_ble_eq_true rfl) ?_
  refine AWP.stepR [1, 2, 4] fun K hK => ?_
  simp only [go_sem, Nat.reduceEqDiff, Nat.reduceLT, Nat.reduceAdd, Nat.reduceMul, Nat.reduceSub, Nat.add_zero, Nat.zero_add, Int.reduceEq, Int.reduceLT]
  refine hK _ _ _ (by simp only [go_sem, Nat.reduceEqDiff, Nat.reduceLT, Nat.reduceAdd, Nat.reduceMul, Nat.reduceSub, Nat.add_zero, Nat.zero_add, Int.reduceEq, Int.reduceLT]; rfl) ?_; clear hK
  obtain ⟨M1, hM1, hg1, hh1, hh2, hn1⟩ := box2 M vb s.code
  change AWP _ _ _ _ ⟨_, ((M.bump 2).put M.next ⟨rdC vb s.code, 134, true⟩).put (M.next + 1) ⟨rdC (.slice none 0 0) 0, 134, true⟩, _⟩ _
  rw [hM1]
  have hlt3 : M1.next < (M1.bump 1).next := Nat.lt_succ_self _
  refine AWP.stepR [1, 2, 4, 5] fun K hK => ?_
  simp only [go_sem, Nat.reduceEqDiff, Nat.reduceLT, Nat.reduceAdd, Nat.reduceMul, Nat.reduceSub, Nat.add_zero, Nat.zero_add, Int.reduceEq, Int.reduceLT, ld_134, hh1.lda (rdC_len ..), st_fresh (M := M1.bump 1) (i := M1.next) (n := 2) (old := [.slice none 0 0, .int .i64 0]) (vs := rdC vb s.code) (e := 134) rfl rfl (rdC_one h1)]
  refine hK _ _ _ (by simp only [go_sem, Nat.reduceEqDiff, Nat.reduceLT, Nat.reduceAdd, Nat.reduceMul, Nat.reduceSub, Nat.add_zero, Nat.zero_add, Int.reduceEq, Int.reduceLT]; rfl) ?_; clear hK
  have hg4 := (((Grew.refl M1).bump 1).put (Nat.le_refl _) hlt3 ⟨[.slice none 0 0, .int .i64 0], 134, true⟩).put (Nat.le_refl _) (by rw [Mem.next_put]; exact hlt3) ⟨rdC vb s.code, 134, true⟩
  have hh4 : Has (((M1.bump 1).put M1.next ⟨[.slice none 0 0, .int .i64 0], 134, true⟩).put M1.next ⟨rdC vb s.code, 134, true⟩) M1.next ⟨rdC vb s.code, 134, true⟩ := Has.put (M := (M1.bump 1).put M1.next ⟨[.slice none 0 0, .int .i64 0], 134, true⟩) (by rw [Mem.next_put]; exact hlt3) _
  generalize ((M1.bump 1).put M1.next ⟨[.slice none 0 0, .int .i64 0], 134, true⟩).put M1.next ⟨rdC vb s.code, 134, true⟩ = M4 at hg4 hh4
  have hh1 := hh1.grew hg4
  have hh2 := hh2.grew hg4
  have hgM := hg1.trans hg4
  refine AWP.seq ?_
  refine AWP.stepR [1, 4, 5, 9] fun K hK => ?_
  simp only [go_sem, Nat.reduceEqDiff, Nat.reduceLT, Nat.reduceAdd, Nat.reduceMul, Nat.reduceSub, Nat.add_zero, Nat.zero_add, Int.reduceEq, Int.reduceLT, ld_35, hh1.ld, rdC]
  refine hK _ _ _ (by simp only [go_sem, Nat.reduceEqDiff, Nat.reduceLT, Nat.reduceAdd, Nat.reduceMul, Nat.reduceSub, Nat.add_zero, Nat.zero_add, Int.reduceEq, Int.reduceLT]; rfl) ?_; clear hK
  refine AWP.condG rfl [1, 4, 5] [(1, .int .i64 c), (4, .pointer (some ⟨M.next + 1, 0, none⟩)), (5, .pointer (some ⟨M1.next, 0, none⟩))] (fun M' => Grew M M' ∧ Has M' (M.next + 1) ⟨rdC (.slice none 0 0) 0, 134, true⟩ ∧ Has M' M1.next ⟨rdC vb (failS s c).code, 134, true⟩) (fun h9 => ?_) (fun h9 => ?_) fun M5 hg5 => ?_
  · have h0 : s.code = 0 := by simpa using h9
    have fs : stV M4 M1.next 1 1 (.int .i64 c) = some (M4.put M1.next ⟨rdC vb c, 134, true⟩) := st_cellX hh4 rfl (show 1 < 2 by decide) rfl
    refine AWP.lastR fun K hK => ?_
    simp only [go_sem, Nat.reduceEqDiff, Nat.reduceLT, Nat.reduceAdd, Nat.reduceMul, Nat.reduceSub, Nat.add_zero, Nat.zero_add, Int.reduceEq, Int.reduceLT, st_35, fs]
    refine hK _ _ ?_; clear hK
    refine ⟨rfl, rfl, (hgM.put (by omega) hh4.2 _), hh2.put' (by omega) _, ?_⟩
    rw [failS, if_pos h0]
    exact Has.put hh4.2 _
  · have h0 : s.code ≠ 0 := by simpa using h9
    refine AWP.skip ?_
    refine ⟨rfl, rfl, hgM, hh2, ?_⟩
    rw [failS, if_neg h0]; exact hh4
  obtain ⟨hg5, hk2, hk4⟩ := hg5
  refine AWP.stepR [4] fun K hK => ?_
  simp only [go_sem, Nat.reduceEqDiff, Nat.reduceLT, Nat.reduceAdd, Nat.reduceMul, Nat.reduceSub, Nat.add_zero, Nat.zero_add, Int.reduceEq, Int.reduceLT, ld_134, hk4.lda (rdC_len ..), st_134, st_all (n := 2) (vs := rdC vb (failS s c).code) hk2 rfl rfl rfl (rdC_one h1)]
  refine hK _ _ _ (by simp only [go_sem, Nat.reduceEqDiff, Nat.reduceLT, Nat.reduceAdd, Nat.reduceMul, Nat.reduceSub, Nat.add_zero, Nat.zero_add, Int.reduceEq, Int.reduceLT]; rfl) ?_; clear hK
  obtain ⟨hgz, hhz⟩ := mk_put hg5 (Nat.le_succ _) hk2.2 ⟨rdC vb (failS s c).code, 134, true⟩
  refine AWP.ret (?_)
  exact Fin.keep (v := .agg (rdC vb (failS s c).code).toArray) ⟨.inr rfl, rfl⟩ (by simp only [go_sem, Nat.reduceEqDiff, Nat.reduceLT, Nat.reduceAdd, Nat.reduceMul, Nat.reduceSub, Nat.add_zero, Nat.zero_add, Int.reduceEq, Int.reduceLT, retV, resV, ld_134, hhz.lda (rdC_len ..)]) ⟨hgz, rfl⟩

/-- a reader handed about by value -/
def RdV (M : Mem) (v : Value) (s : Rs) : Prop := ∃ vb, v = .agg (rdC vb s.code).toArray ∧ RowB M vb s.b ∧ (RowE M vb s.b.length (cB s.b) 5 ∨ s.code ≠ 0)
theorem RdV.grew {M M1 : Mem} {v : Value} {s : Rs} (h : RdV M v s) (hg : Grew M M1) : RdV M1 v s := by
  obtain ⟨vb, h1, h2, h3⟩ := h
  exact ⟨vb, h1, h2.grew hg, h3.imp (fun h => h.grew hg) id⟩
/-- a reader that is asked for so many bytes -/
def RdK (M : Mem) (v : Value) (s : Rs) (k : Int) : Prop := ∃ vb, v = .agg (rdC vb s.code).toArray ∧ RowB M vb s.b ∧ (RowE M vb s.b.length (cB s.b) 5 ∨ s.code ≠ 0 ∨ k > s.b.length)
theorem RdV.k {M : Mem} {v : Value} {s : Rs} (h : RdV M v s) (k : Int) : RdK M v s k := by
  obtain ⟨vb, h1, h2, h3⟩ := h
  exact ⟨vb, h1, h2, h3.imp id .inl⟩

/-- a row of bytes whose block is known, or none -/
def RowN (M : Mem) (v : Value) (l : List Int) : Prop := (v = .slice none 0 0 ∧ l = []) ∨ RowE M v l.length (cB l) 5
theorem RowN.row {M : Mem} {v : Value} {l : List Int} (h : RowN M v l) : RowB M v l := by
  rcases h with ⟨rfl, rfl⟩ | h
  · exact Row_.nil _
  · exact h.row
theorem bytes106_spec (v : Value) (s : Rs) (k : Int) (M0 M : Mem) (hok : Ok M) (hg0 : Grew M0 M) (hv : RdK M0 v s k) (hl : s.b.length ≤ 4611686018427387904) :
    ∃ r M', ACall Tryz.prog 106 #[v, .int .i64 k] M r M' ∧ Grew M M' ∧ ∃ v' w, r = .tuple #[v', w] ∧ RdV M0 v' (takeS s k).1 ∧ RowN M0 w (takeS s k).2 := by
  obtain ⟨vb, rfl, hvB, hvd⟩ := hv
  refine ACall.fin (args := [.agg (rdC vb s.code).toArray, .int .i64 k]) (k := 30) (rs := [.cell 4 134, .tmp 5]) Tryz.func106 rfl rfl rfl (Nat.le_of_ble_eq_true rfl) ?_
  refine AWP.stepR [1, 2, 4] fun K hK => ?_
  simp only [go_sem, Nat.reduceEqDiff, Nat.reduceLT, Nat.reduceAdd, Nat.reduceMul, Nat.reduceSub, Nat.add_zero, Nat.zero_add, Int.reduceEq, Int.reduceLT]
  refine hK _ _ _ (by simp only [go_sem, Nat.reduceEqDiff, Nat.reduceLT, Nat.reduceAdd, Nat.reduceMul, Nat.reduceSub, Nat.add_zero, Nat.zero_add, Int.reduceEq, Int.reduceLT]; rfl) ?_; clear hK
  obtain ⟨M1, hM1, hg1, hh1, hh2, hn1⟩ := box2 M vb s.code
  change AWP _ _ _ _ ⟨_, ((M.bump 2).put M.next ⟨rdC vb s.code, 134, true⟩).put (M.next + 1) ⟨rdC (.slice none 0 0) 0, 134, true⟩, _⟩ _
  rw [hM1]
  have h1 := hvB.one
  refine AWP.seq ?_
  refine AWP.stepR [1, 2, 4, 8] fun K hK => ?_
  simp only [go_sem, Nat.reduceEqDiff, Nat.reduceLT, Nat.reduceAdd, Nat.reduceMul, Nat.reduceSub, Nat.add_zero, Nat.zero_add, Int.reduceEq, Int.reduceLT, ld_35, hh1.ld, rdC]
  refine hK _ _ _ (by simp only [go_sem, Nat.reduceEqDiff, Nat.reduceLT, Nat.reduceAdd, Nat.reduceMul, Nat.reduceSub, Nat.add_zero, Nat.zero_add, Int.reduceEq, Int.reduceLT]; rfl) ?_; clear hK
  refine AWP.cond_split rfl (fun h8 => ?_) fun h8 => ?_
  · have h0 : s.code ≠ 0 := by simpa using h8
    refine AWP.stepR [4, 5] fun K hK => ?_
    simp only [go_sem, Nat.reduceEqDiff, Nat.reduceLT, Nat.reduceAdd, Nat.reduceMul, Nat.reduceSub, Nat.add_zero, Nat.zero_add, Int.reduceEq, Int.reduceLT, ld_134, hh1.lda (rdC_len ..), st_134, st_all (n := 2) (vs := rdC vb s.code) hh2 rfl rfl rfl (rdC_one h1)]
    refine hK _ _ _ (by simp only [go_sem, Nat.reduceEqDiff, Nat.reduceLT, Nat.reduceAdd, Nat.reduceMul, Nat.reduceSub, Nat.add_zero, Nat.zero_add, Int.reduceEq, Int.reduceLT]; rfl) ?_; clear hK
    obtain ⟨hgz, hhz⟩ := mk_put hg1 (Nat.le_succ _) hh2.2 ⟨rdC vb s.code, 134, true⟩
    refine AWP.ret (Then.ret (?_))
    refine Fin.keep (v := .tuple #[.agg (rdC vb s.code).toArray, .slice none 0 0]) ⟨.inr rfl, rfl⟩ (by simp only [go_sem, Nat.reduceEqDiff, Nat.reduceLT, Nat.reduceAdd, Nat.reduceMul, Nat.reduceSub, Nat.add_zero, Nat.zero_add, Int.reduceEq, Int.reduceLT, retV, resV, ld_134, hhz.lda (rdC_len ..)] <;> rfl) ⟨hgz, _, _, rfl, ?_, ?_⟩
    · rw [takeS, if_neg h0]; exact ⟨vb, rfl, hvB, .inr h0⟩
    · rw [takeS, if_neg h0]; exact .inl ⟨rfl, rfl⟩
  · have h0 : s.code = 0 := by simpa using h8
    refine AWP.skip ?_
    refine AWP.seq ?_
    refine AWP.stepX [1, 2, 4, 18] [(1, .int .i64 k), (2, .pointer (some ⟨M.next, 0, none⟩)), (4, .pointer (some ⟨M.next + 1, 0, none⟩)), (18, .bool (decide (k < 0 ∨ k > s.b.length)))] M1 (fun K hK => ?_) ?_
    · by_cases hk : k < 0
      · simp only [go_sem, Nat.reduceEqDiff, Nat.reduceLT, Nat.reduceAdd, Nat.reduceMul, Nat.reduceSub, Nat.add_zero, Nat.zero_add, Int.reduceEq, Int.reduceLT, decide_eq_true hk]
        refine hK _ ?_
        simp only [go_sem, Nat.reduceEqDiff, Nat.reduceLT, Nat.reduceAdd, Nat.reduceMul, Nat.reduceSub, Nat.add_zero, Nat.zero_add, Int.reduceEq, Int.reduceLT, decide_eq_true (show k < 0 ∨ k > s.b.length from .inl hk)]
      · simp only [go_sem, Nat.reduceEqDiff, Nat.reduceLT, Nat.reduceAdd, Nat.reduceMul, Nat.reduceSub, Nat.add_zero, Nat.zero_add, Int.reduceEq, Int.reduceLT, ld_42, hh1.ld, rdC, decide_eq_false hk, hvB.len es_42]
        refine hK _ ?_
        simp only [go_sem, Nat.reduceEqDiff, Nat.reduceLT, Nat.reduceAdd, Nat.reduceMul, Nat.reduceSub, Nat.add_zero, Nat.zero_add, Int.reduceEq, Int.reduceLT]
        rw [decide_eq_decide.2 (show (k < 0 ∨ k > s.b.length) ↔ k > s.b.length from ⟨fun h => h.resolve_left hk, .inr⟩)]
    refine AWP.cond_split rfl (fun h18 => ?_) fun h18 => ?_
    · have hbad : k < 0 ∨ k > s.b.length := of_decide_eq_true h18
      obtain ⟨r3, M3, hc3, hg3, rfl⟩ := fail117_spec vb s 3 M1 (hg1.ok hok) h1
      have hh23 := hh2.grew hg3
      refine AWP.stepR [4, 5] fun K hK => ?_
      simp only [go_sem, Nat.reduceEqDiff, Nat.reduceLT, Nat.reduceAdd, Nat.reduceMul, Nat.reduceSub, Nat.add_zero, Nat.zero_add, Int.reduceEq, Int.reduceLT, ld_134, hh1.lda (rdC_len ..)]
      refine ⟨_, _, hc3, ?_⟩
      try simp only [go_sem, Nat.reduceEqDiff, Nat.reduceLT, Nat.reduceAdd, Nat.reduceMul, Nat.reduceSub, Nat.add_zero, Nat.zero_add, Int.reduceEq, Int.reduceLT, st_134, st_all (n := 2) (vs := rdC vb (failS s 3).code) hh23 rfl rfl rfl (rdC_one h1)]
      refine hK _ _ _ (by simp only [go_sem, Nat.reduceEqDiff, Nat.reduceLT, Nat.reduceAdd, Nat.reduceMul, Nat.reduceSub, Nat.add_zero, Nat.zero_add, Int.reduceEq, Int.reduceLT]; rfl) ?_; clear hK
      obtain ⟨hgz, hhz⟩ := mk_put (hg1.trans hg3) (Nat.le_succ _) hh23.2 ⟨rdC vb (failS s 3).code, 134, true⟩
      refine AWP.ret (Then.ret (?_))
      have e : takeS s k = (⟨s.b, 3⟩, []) := by rw [takeS, if_pos h0, if_pos hbad]
      have e2 : (failS s 3).code = 3 := by rw [failS, if_pos h0]
      refine Fin.keep (v := .tuple #[.agg (rdC vb (failS s 3).code).toArray, .slice none 0 0]) ⟨.inr rfl, rfl⟩ (by simp only [go_sem, Nat.reduceEqDiff, Nat.reduceLT, Nat.reduceAdd, Nat.reduceMul, Nat.reduceSub, Nat.add_zero, Nat.zero_add, Int.reduceEq, Int.reduceLT, retV, resV, ld_134, hhz.lda (rdC_len ..)] <;> rfl) ⟨hgz, _, _, rfl, ?_, ?_⟩
      · rw [e, e2]; exact ⟨vb, rfl, hvB, .inr (show (3 : Int) ≠ 0 by decide)⟩
      · rw [e]; exact .inl ⟨rfl, rfl⟩
    · have hbad : ¬ (k < 0 ∨ k > s.b.length) := of_decide_eq_false h18
      have hv := (hvd.resolve_right fun h => h.elim (fun h => h h0) fun h => hbad (.inr h))
      obtain ⟨kn, rfl⟩ : ∃ kn : Nat, k = kn := ⟨k.toNat, by omega⟩
      have hkn : kn ≤ s.b.length := by omega
      obtain ⟨v2, f2, hr2⟩ := slice_23l hv hkn
      obtain ⟨v1, f1, hr1⟩ := slice_23h hv hkn
      obtain ⟨hgz, hhz⟩ := mk_put hg1 (Nat.le_succ _) hh2.2 ⟨rdC v2 0, 134, true⟩
      have hh1z := hh1.put' (show M.next ≠ M.next + 1 by omega) ⟨rdC v2 0, 134, true⟩
      have fs : stV M1 (M.next + 1) 0 2 (.agg #[v2, .int .i64 0]) = some (M1.put (M.next + 1) ⟨rdC v2 0, 134, true⟩) := st_all (n := 2) (vs := rdC v2 0) hh2 rfl rfl rfl (rdC_one hr2.row.one)
      generalize M1.put (M.next + 1) ⟨rdC v2 0, 134, true⟩ = M5 at hgz hhz hh1z fs
      refine AWP.skip ?_
      refine AWP.stepD hmo [0, 1, 2, 3, 4, 5, 6, 7, 8, 9, 10] [0, 1, 0, 7, 15, 0, 32, 0, 224, 31, 1023] [] [(6, 9), (8, 9)] (by kernel_rfl) [4, 5] fun K hK => ?_
      simp only [go_sem, Nat.reduceEqDiff, Nat.reduceLT, Nat.reduceAdd, Nat.reduceMul, Nat.reduceSub, Nat.add_zero, Nat.zero_add, Int.reduceEq, Int.reduceLT, ld_42, hh1.ld, hh1z.ld, rdC, Option.map_some, f1 M1 (hg0.trans hg1), f2 M1 (hg0.trans hg1), f1 M5 (hg0.trans hgz), bd_134 hr2.row.one, st_134, fs]
      refine hK _ _ _ (by simp only [go_sem, Nat.reduceEqDiff, Nat.reduceLT, Nat.reduceAdd, Nat.reduceMul, Nat.reduceSub, Nat.add_zero, Nat.zero_add, Int.reduceEq, Int.reduceLT]; rfl) ?_; clear hK
      refine AWP.ret (?_)
      have e : takeS s kn = (⟨s.b.drop kn, 0⟩, s.b.take kn) := by rw [takeS, if_pos h0, if_neg hbad]; simp
      refine Fin.keep (v := .tuple #[.agg (rdC v2 0).toArray, v1]) ⟨.inr rfl, rfl⟩ (by simp only [go_sem, Nat.reduceEqDiff, Nat.reduceLT, Nat.reduceAdd, Nat.reduceMul, Nat.reduceSub, Nat.add_zero, Nat.zero_add, Int.reduceEq, Int.reduceLT, retV, resV, ld_134, hhz.lda (rdC_len ..)] <;> rfl) ⟨hgz, _, _, rfl, ?_, ?_⟩
      · rw [e]; exact ⟨v2, rfl, hr2.row, .inl hr2⟩
      · rw [e]; exact .inr hr1

theorem number64_spec (v : Value) (s : Rs) (k : Int) (M0 M : Mem) (hok : Ok M) (hg0 : Grew M0 M) (hv : RdK M0 v s k) (hb : BytB s.b) (hk : 0 ≤ k ∧ k ≤ 8) (hl : s.b.length ≤ 4611686018427387904) :
    ∃ r M', ACall Tryz.prog 64 #[v, .int .i64 k] M r M' ∧ Grew M M' ∧ ∃ v', r = .tuple #[v', .int .u64 (numS s k).2] ∧ RdV M0 v' (numS s k).1 := by
  have hv0 := hv
  obtain ⟨vb, rfl, hvE, _⟩ := hv
  refine ACall.fin (args := [.agg (rdC vb s.code).toArray, .int .i64 k]) (k := 17) (rs := [.cell 4 134, .tmp 5]) Tryz.func64 rfl rfl rfl (Nat.le_of_ble_eq_true rfl) ?_
  refine AWP.stepR [1, 2, 4] fun K hK => ?_
  simp only [go_sem, Nat.reduceEqDiff, Nat.reduceLT, Nat.reduceAdd, Nat.reduceMul, Nat.reduceSub, Nat.add_zero, Nat.zero_add, Int.reduceEq, Int.reduceLT]
  refine hK _ _ _ (by simp only [go_sem, Nat.reduceEqDiff, Nat.reduceLT, Nat.reduceAdd, Nat.reduceMul, Nat.reduceSub, Nat.add_zero, Nat.zero_add, Int.reduceEq, Int.reduceLT]; rfl) ?_; clear hK
  obtain ⟨M1, hM1, hg1, hh1, hh2, hn1⟩ := box2 M vb s.code
  change AWP _ _ _ _ ⟨_, ((M.bump 2).put M.next ⟨rdC vb s.code, 134, true⟩).put (M.next + 1) ⟨rdC (.slice none 0 0) 0, 134, true⟩, _⟩ _
  rw [hM1]
  have hgb := (Grew.refl M1).bump 1
  obtain ⟨r2, M2, hc2, hg2, w2, u2, rfl, ⟨vb2, rfl, hE2, hd2⟩, hu2⟩ := bytes106_spec _ s k M0 (M1.bump 1) ((hg1.bump 1).ok hok) (hg0.trans (hg1.trans hgb)) hv0 hl
  have hu2 := hu2.row
  have hlen := (takeS_len s k).2.2 hk.1
  have hnx : M1.next < M2.next := by have := hg2.next; rw [Mem.next_bump] at this; omega
  have h1 := hE2.one
  refine AWP.stepR [4, 6, 7] fun K hK => ?_
  simp only [go_sem, Nat.reduceEqDiff, Nat.reduceLT, Nat.reduceAdd, Nat.reduceMul, Nat.reduceSub, Nat.add_zero, Nat.zero_add, Int.reduceEq, Int.reduceLT, ld_134, hh1.lda (rdC_len ..)]
  refine ⟨_, _, hc2, ?_⟩
  try simp only [go_sem, Nat.reduceEqDiff, Nat.reduceLT, Nat.reduceAdd, Nat.reduceMul, Nat.reduceSub, Nat.add_zero, Nat.zero_add, Int.reduceEq, Int.reduceLT, extractV, st_fresh (M := M2) (i := M1.next) (n := 2) (old := [.slice none 0 0, .int .i64 0]) (vs := rdC vb2 (takeS s k).1.code) (e := 134) rfl rfl (rdC_one h1)]
  refine hK _ _ _ (by simp only [go_sem, Nat.reduceEqDiff, Nat.reduceLT, Nat.reduceAdd, Nat.reduceMul, Nat.reduceSub, Nat.add_zero, Nat.zero_add, Int.reduceEq, Int.reduceLT]; rfl) ?_; clear hK
  have hg12 := hgb.trans hg2
  have hg3 : Grew M1 ((M2.put M1.next ⟨[.slice none 0 0, .int .i64 0], 134, true⟩).put M1.next ⟨rdC vb2 (takeS s k).1.code, 134, true⟩) := (hg12.put (Nat.le_refl _) hnx _).put (Nat.le_refl _) (by rw [Mem.next_put]; exact hnx) _
  have hh3 : Has ((M2.put M1.next ⟨[.slice none 0 0, .int .i64 0], 134, true⟩).put M1.next ⟨rdC vb2 (takeS s k).1.code, 134, true⟩) M1.next ⟨rdC vb2 (takeS s k).1.code, 134, true⟩ := Has.put (by rw [Mem.next_put]; exact hnx) _
  generalize (M2.put M1.next ⟨[.slice none 0 0, .int .i64 0], 134, true⟩).put M1.next ⟨rdC vb2 (takeS s k).1.code, 134, true⟩ = M3 at hg3 hh3
  have hgM3 := hg1.trans hg3
  have hh23 := hh2.grew hg3
  obtain ⟨r4, M4, hc4, hr4, hM4⟩ := get116_spec u2 (takeS s k).2 M3 (hgM3.ok hok) (hu2.grew (hg0.trans hgM3)) (takeS_bytes hb k).2 (by omega)
  rw [hr4, hM4] at hc4
  refine AWP.stepD hmo [0, 1, 2, 3, 4] [0, 0, 2, 7, 15] [] [(0, 2)] (by kernel_rfl) [4, 5] fun K hK => ?_
  simp only [go_sem, Nat.reduceEqDiff, Nat.reduceLT, Nat.reduceAdd, Nat.reduceMul, Nat.reduceSub, Nat.add_zero, Nat.zero_add, Int.reduceEq, Int.reduceLT, ld_134, hh3.lda (rdC_len ..)]
  refine ⟨_, _, hc4, ?_⟩
  try simp only [go_sem, Nat.reduceEqDiff, Nat.reduceLT, Nat.reduceAdd, Nat.reduceMul, Nat.reduceSub, Nat.add_zero, Nat.zero_add, Int.reduceEq, Int.reduceLT, ld_134, hh3.lda (rdC_len ..), st_134, st_all (n := 2) (vs := rdC vb2 (takeS s k).1.code) hh23 rfl rfl rfl (rdC_one h1)]
  refine hK _ _ _ (by simp only [go_sem, Nat.reduceEqDiff, Nat.reduceLT, Nat.reduceAdd, Nat.reduceMul, Nat.reduceSub, Nat.add_zero, Nat.zero_add, Int.reduceEq, Int.reduceLT]; rfl) ?_; clear hK
  obtain ⟨hgz, hhz⟩ := mk_put hgM3 (Nat.le_succ _) hh23.2 ⟨rdC vb2 (takeS s k).1.code, 134, true⟩
  refine AWP.ret (?_)
  exact Fin.keep (v := .tuple #[.agg (rdC vb2 (takeS s k).1.code).toArray, .int .u64 (numS s k).2]) ⟨.inr rfl, rfl⟩ (by simp only [go_sem, Nat.reduceEqDiff, Nat.reduceLT, Nat.reduceAdd, Nat.reduceMul, Nat.reduceSub, Nat.add_zero, Nat.zero_add, Int.reduceEq, Int.reduceLT, retV, resV, ld_134, hhz.lda (rdC_len ..)] <;> rfl) ⟨hgz, _, rfl, vb2, rfl, hE2, hd2⟩

theorem kept (M M2 : Mem) (hg2 : Grew (M.bump 1) M2) (z cells : List Value) (e : TypeId) (ho : isObj e = false := by rfl) : ∃ M3, (M2.put M.next ⟨z, e, true⟩).put M.next ⟨cells, e, true⟩ = M3 ∧ Grew M M3 ∧ Has M3 M.next ⟨cells, e, true⟩ := by
  have hnx : M.next < M2.next := by have := hg2.next; rw [Mem.next_bump] at this; omega
  have hg : Grew M M2 := ((Grew.refl M).bump 1).trans hg2
  have hnx2 : M.next < (M2.put M.next ⟨z, e, true⟩).next := by rw [Mem.next_put]; exact hnx
  exact ⟨_, rfl, (hg.put (Nat.le_refl _) hnx _).put (Nat.le_refl _) hnx2 _, Has.put hnx2 _ ho⟩
theorem end66_spec (v : Value) (s : Rs) (M : Mem) (hok : Ok M) (hv : RdV M v s) : ∃ r M', ACall Tryz.prog 66 #[v] M r M' ∧ r = .int .i64 (endS s).code ∧ M' = M := by
  obtain ⟨vb, rfl, hvE, _⟩ := hv
  refine ACall.fin (args := [.agg (rdC vb s.code).toArray]) (k := 14) (rs := [.tmp 2]) Tryz.func66 rfl rfl rfl (Nat.le_of_ble_eq_true rfl) ?_
  refine AWP.stepR [1] fun K hK => ?_
  simp only [go_sem, Nat.reduceEqDiff, Nat.reduceLT, Nat.reduceAdd, Nat.reduceMul, Nat.reduceSub, Nat.add_zero, Nat.zero_add, Int.reduceEq, Int.reduceLT]
  refine hK _ _ _ (by simp only [go_sem, Nat.reduceEqDiff, Nat.reduceLT, Nat.reduceAdd, Nat.reduceMul, Nat.reduceSub, Nat.add_zero, Nat.zero_add, Int.reduceEq, Int.reduceLT]; rfl) ?_; clear hK
  have hlt1 : M.next < (M.bump 1).next := Nat.lt_succ_self _
  obtain ⟨hg1, hh1⟩ := mk_put ((Grew.refl M).bump 1) (Nat.le_refl _) hlt1 ⟨(rdC vb s.code), 134, true⟩
  change AWP _ _ _ _ ⟨_, (M.bump 1).put M.next ⟨(rdC vb s.code), 134, true⟩, _⟩ _
  generalize hM1 : (M.bump 1).put M.next ⟨(rdC vb s.code), 134, true⟩ = M1 at hg1 hh1
  refine AWP.seq ?_
  refine AWP.stepX [1, 11] [(1, .pointer (some ⟨M.next, 0, none⟩)), (11, .bool (decide (s.code = 0 ∧ 0 < s.b.length)))] M1 (fun K hK => ?_) ?_
  · by_cases h0 : s.code = 0
    · simp only [go_sem, Nat.reduceEqDiff, Nat.reduceLT, Nat.reduceAdd, Nat.reduceMul, Nat.reduceSub, Nat.add_zero, Nat.zero_add, Int.reduceEq, Int.reduceLT, ld_35, hh1.ld, rdC, h0, show ((0 : Int) == 0) = true from rfl, ld_42, hvE.len es_42]
      refine hK _ ?_
      simp only [go_sem, Nat.reduceEqDiff, Nat.reduceLT, Nat.reduceAdd, Nat.reduceMul, Nat.reduceSub, Nat.add_zero, Nat.zero_add, Int.reduceEq, Int.reduceLT]
      simp [h0]
    · simp only [go_sem, Nat.reduceEqDiff, Nat.reduceLT, Nat.reduceAdd, Nat.reduceMul, Nat.reduceSub, Nat.add_zero, Nat.zero_add, Int.reduceEq, Int.reduceLT, ld_35, hh1.ld, rdC, show (s.code == 0) = false by simp [h0]]
      refine hK _ ?_
      simp only [go_sem, Nat.reduceEqDiff, Nat.reduceLT, Nat.reduceAdd, Nat.reduceMul, Nat.reduceSub, Nat.add_zero, Nat.zero_add, Int.reduceEq, Int.reduceLT]
      rw [show decide (s.code = 0 ∧ 0 < s.b.length) = false by simp [h0]]
  refine AWP.cond_split rfl (fun h11 => ?_) fun h11 => ?_
  · have h := of_decide_eq_true h11
    refine AWP.stepR [2] fun K hK => ?_
    simp only [go_sem, Nat.reduceEqDiff, Nat.reduceLT, Nat.reduceAdd, Nat.reduceMul, Nat.reduceSub, Nat.add_zero, Nat.zero_add, Int.reduceEq, Int.reduceLT]
    refine hK _ _ _ (by simp only [go_sem, Nat.reduceEqDiff, Nat.reduceLT, Nat.reduceAdd, Nat.reduceMul, Nat.reduceSub, Nat.add_zero, Nat.zero_add, Int.reduceEq, Int.reduceLT]; rfl) ?_; clear hK
    refine AWP.ret (Then.ret (?_))
    refine Fin.plain ⟨.inr rfl, rfl⟩ rfl rfl hok hg1 ⟨?_, rfl⟩
    rw [endS, if_pos (by omega), failS, if_pos h.1]
  · have h := of_decide_eq_false h11
    refine AWP.skip ?_
    refine AWP.stepR [2] fun K hK => ?_
    simp only [go_sem, Nat.reduceEqDiff, Nat.reduceLT, Nat.reduceAdd, Nat.reduceMul, Nat.reduceSub, Nat.add_zero, Nat.zero_add, Int.reduceEq, Int.reduceLT, ld_35, hh1.ld, rdC]
    refine hK _ _ _ (by simp only [go_sem, Nat.reduceEqDiff, Nat.reduceLT, Nat.reduceAdd, Nat.reduceMul, Nat.reduceSub, Nat.add_zero, Nat.zero_add, Int.reduceEq, Int.reduceLT]; rfl) ?_; clear hK
    refine AWP.ret ?_
    refine Fin.plain ⟨.inr rfl, rfl⟩ rfl rfl hok hg1 ⟨?_, rfl⟩
    by_cases h2 : (s.b.length : Int) > 0
    · have h0 : s.code ≠ 0 := fun h0 => h ⟨h0, by omega⟩
      rw [endS, if_pos h2, failS, if_neg h0]
    · rw [endS, if_neg h2]

theorem text65_spec (v : Value) (s : Rs) (M0 M : Mem) (hok : Ok M) (hg0 : Grew M0 M) (hv : RdV M0 v s) (hb : BytB s.b) (hl : s.b.length ≤ 1000000) :
    ∃ r M', ACall Tryz.prog 65 #[v, .int .i64 4, .int .i64 262144] M r M' ∧ Grew M M' ∧ ∃ v' w, r = .tuple #[v', w] ∧ RdV M0 v' (textS s).1 ∧ RowN M0 w (textS s).2 := by
  have hv0 := hv
  obtain ⟨vb, rfl, hvE, _⟩ := hv
  refine ACall.fin (args := [.agg (rdC vb s.code).toArray, .int .i64 4, .int .i64 262144]) (k := 41) (rs := [.cell 6 134, .tmp 7]) Tryz.func65 rfl rfl rfl (Nat.le_of_ble_eq_true rfl) ?_
  refine AWP.stepR [1, 2, 3, 6] fun K hK => ?_
  simp only [go_sem, Nat.reduceEqDiff, Nat.reduceLT, Nat.reduceAdd, Nat.reduceMul, Nat.reduceSub, Nat.add_zero, Nat.zero_add, Int.reduceEq, Int.reduceLT]
  refine hK _ _ _ (by simp only [go_sem, Nat.reduceEqDiff, Nat.reduceLT, Nat.reduceAdd, Nat.reduceMul, Nat.reduceSub, Nat.add_zero, Nat.zero_add, Int.reduceEq, Int.reduceLT]; rfl) ?_; clear hK
  obtain ⟨M1, hM1, hg1, hh1, hh2, hn1⟩ := box2 M vb s.code
  change AWP _ _ _ _ ⟨_, ((M.bump 2).put M.next ⟨rdC vb s.code, 134, true⟩).put (M.next + 1) ⟨rdC (.slice none 0 0) 0, 134, true⟩, _⟩ _
  rw [hM1]
  obtain ⟨r2, X2, hc2, hx2, v2, rfl, hv2⟩ := number64_spec _ s 4 M0 (M1.bump 1) ((hg1.bump 1).ok hok) (hg0.trans (hg1.bump 1)) (hv0.k 4) hb (by omega) (by omega)
  have hv2' := hv2
  obtain ⟨vb2, rfl, hE2, hd2⟩ := hv2
  have hn := numS_b4 hb
  have hl4 := numS_len s 4
  have h1 := hE2.one
  refine AWP.stepR [2, 6, 8, 9] fun K hK => ?_
  simp only [go_sem, Nat.reduceEqDiff, Nat.reduceLT, Nat.reduceAdd, Nat.reduceMul, Nat.reduceSub, Nat.add_zero, Nat.zero_add, Int.reduceEq, Int.reduceLT, ld_134, hh1.lda (rdC_len ..)]
  refine ⟨_, _, hc2, ?_⟩
  try simp only [go_sem, Nat.reduceEqDiff, Nat.reduceLT, Nat.reduceAdd, Nat.reduceMul, Nat.reduceSub, Nat.add_zero, Nat.zero_add, Int.reduceEq, Int.reduceLT, extractV, st_fresh (M := X2) (i := M1.next) (n := 2) (old := [.slice none 0 0, .int .i64 0]) (vs := rdC vb2 (numS s 4).1.code) (e := 134) rfl rfl (rdC_one h1)]
  refine hK _ _ _ (by simp only [go_sem, Nat.reduceEqDiff, Nat.reduceLT, Nat.reduceAdd, Nat.reduceMul, Nat.reduceSub, Nat.add_zero, Nat.zero_add, Int.reduceEq, Int.reduceLT]; rfl) ?_; clear hK
  obtain ⟨M2, hM2, hg2, hk2⟩ := kept M1 X2 hx2 [.slice none 0 0, .int .i64 0] (rdC vb2 (numS s 4).1.code) 134
  rw [hM2]
  have hg02 := hg1.trans hg2
  have hh22 := hh2.grew hg2
  refine AWP.stepR [6, 8, 9, 10] fun K hK => ?_
  simp only [go_sem, Nat.reduceEqDiff, Nat.reduceLT, Nat.reduceAdd, Nat.reduceMul, Nat.reduceSub, Nat.add_zero, Nat.zero_add, Int.reduceEq, Int.reduceLT]
  refine hK _ _ _ (by simp only [go_sem, Nat.reduceEqDiff, Nat.reduceLT, Nat.reduceAdd, Nat.reduceMul, Nat.reduceSub, Nat.add_zero, Nat.zero_add, Int.reduceEq, Int.reduceLT]; rfl) ?_; clear hK
  refine AWP.seq ?_
  refine AWP.stepR [6, 8, 9, 10, 19] fun K hK => ?_
  simp only [go_sem, Nat.reduceEqDiff, Nat.reduceLT, Nat.reduceAdd, Nat.reduceMul, Nat.reduceSub, Nat.add_zero, Nat.zero_add, Int.reduceEq, Int.reduceLT]
  refine hK _ _ _ (by simp only [go_sem, Nat.reduceEqDiff, Nat.reduceLT, Nat.reduceAdd, Nat.reduceMul, Nat.reduceSub, Nat.add_zero, Nat.zero_add, Int.reduceEq, Int.reduceLT]; rfl) ?_; clear hK
  refine AWP.cond_split rfl (fun h19 => ?_) fun h19 => ?_
  · cases h19
  · refine AWP.skip ?_
    refine AWP.seq ?_
    refine AWP.stepX [6, 8, 9, 28] [(6, .pointer (some ⟨M.next + 1, 0, none⟩)), (8, .pointer (some ⟨M1.next, 0, none⟩)), (9, .int .u64 (numS s 4).2), (28, .bool (decide ((numS s 4).1.code = 0 ∧ (numS s 4).2 > 262144)))] M2 (fun K hK => ?_) ?_
    · by_cases h0 : (numS s 4).1.code = 0
      · simp only [go_sem, Nat.reduceEqDiff, Nat.reduceLT, Nat.reduceAdd, Nat.reduceMul, Nat.reduceSub, Nat.add_zero, Nat.zero_add, Int.reduceEq, Int.reduceLT, ld_35, hk2.ld, rdC, h0, show ((0 : Int) == 0) = true from rfl, u64w (n := 262144) (by omega) (by omega)]
        refine hK _ ?_
        simp only [go_sem, Nat.reduceEqDiff, Nat.reduceLT, Nat.reduceAdd, Nat.reduceMul, Nat.reduceSub, Nat.add_zero, Nat.zero_add, Int.reduceEq, Int.reduceLT]
        simp [h0]
      · simp only [go_sem, Nat.reduceEqDiff, Nat.reduceLT, Nat.reduceAdd, Nat.reduceMul, Nat.reduceSub, Nat.add_zero, Nat.zero_add, Int.reduceEq, Int.reduceLT, ld_35, hk2.ld, rdC, show ((numS s 4).1.code == 0) = false by simp [h0]]
        refine hK _ ?_
        simp only [go_sem, Nat.reduceEqDiff, Nat.reduceLT, Nat.reduceAdd, Nat.reduceMul, Nat.reduceSub, Nat.add_zero, Nat.zero_add, Int.reduceEq, Int.reduceLT]
        rw [decide_eq_false (fun hh => h0 hh.1)]
    refine AWP.cond_split rfl (fun h28 => ?_) fun h28 => ?_
    · have hc := of_decide_eq_true h28
      have e0 : capS (numS s 4) = failS (numS s 4).1 4 := by rw [capS, if_pos hc]
      have e1 : (failS (numS s 4).1 4).code = 4 := by rw [failS, if_pos hc.1]
      have e : textS s = (failS (numS s 4).1 4, []) := by rw [textS, e0, if_pos (by rw [e1]; decide)]
      obtain ⟨r3, M3, hc3, hg3, rfl⟩ := fail117_spec vb2 (numS s 4).1 4 M2 (hg02.ok hok) h1
      have hh23 := hh22.grew hg3
      refine AWP.stepR [6, 7] fun K hK => ?_
      simp only [go_sem, Nat.reduceEqDiff, Nat.reduceLT, Nat.reduceAdd, Nat.reduceMul, Nat.reduceSub, Nat.add_zero, Nat.zero_add, Int.reduceEq, Int.reduceLT, ld_134, hk2.lda (rdC_len ..)]
      refine ⟨_, _, hc3, ?_⟩
      try simp only [go_sem, Nat.reduceEqDiff, Nat.reduceLT, Nat.reduceAdd, Nat.reduceMul, Nat.reduceSub, Nat.add_zero, Nat.zero_add, Int.reduceEq, Int.reduceLT, st_134, st_all (n := 2) (vs := rdC vb2 (failS (numS s 4).1 4).code) hh23 rfl rfl rfl (rdC_one h1)]
      refine hK _ _ _ (by simp only [go_sem, Nat.reduceEqDiff, Nat.reduceLT, Nat.reduceAdd, Nat.reduceMul, Nat.reduceSub, Nat.add_zero, Nat.zero_add, Int.reduceEq, Int.reduceLT]; rfl) ?_; clear hK
      obtain ⟨hgz, hhz⟩ := mk_put (hg02.trans hg3) (Nat.le_succ _) hh23.2 ⟨rdC vb2 (failS (numS s 4).1 4).code, 134, true⟩
      refine AWP.ret (Then.ret (?_))
      rw [e]
      exact Fin.keep (v := .tuple #[.agg (rdC vb2 (failS (numS s 4).1 4).code).toArray, .slice none 0 0]) ⟨.inr rfl, rfl⟩ (by simp only [go_sem, Nat.reduceEqDiff, Nat.reduceLT, Nat.reduceAdd, Nat.reduceMul, Nat.reduceSub, Nat.add_zero, Nat.zero_add, Int.reduceEq, Int.reduceLT, retV, resV, ld_134, hhz.lda (rdC_len ..)] <;> rfl) ⟨hgz, _, _, rfl, ⟨vb2, rfl, by rw [failS_b]; exact hE2, .inr (by rw [e1]; decide)⟩, .inl ⟨rfl, rfl⟩⟩
    · have hc := of_decide_eq_false h28
      have e0 : capS (numS s 4) = (numS s 4).1 := by rw [capS, if_neg hc]
      refine AWP.skip ?_
      refine AWP.seq ?_
      refine AWP.stepR [6, 8, 9, 33] fun K hK => ?_
      simp only [go_sem, Nat.reduceEqDiff, Nat.reduceLT, Nat.reduceAdd, Nat.reduceMul, Nat.reduceSub, Nat.add_zero, Nat.zero_add, Int.reduceEq, Int.reduceLT, ld_35, hk2.ld, rdC]
      refine hK _ _ _ (by simp only [go_sem, Nat.reduceEqDiff, Nat.reduceLT, Nat.reduceAdd, Nat.reduceMul, Nat.reduceSub, Nat.add_zero, Nat.zero_add, Int.reduceEq, Int.reduceLT]; rfl) ?_; clear hK
      refine AWP.cond_split rfl (fun h33 => ?_) fun h33 => ?_
      · have h0 : (numS s 4).1.code ≠ 0 := by simpa using h33
        have e : textS s = ((numS s 4).1, []) := by rw [textS, e0, if_pos h0]
        refine AWP.stepR [6, 7] fun K hK => ?_
        simp only [go_sem, Nat.reduceEqDiff, Nat.reduceLT, Nat.reduceAdd, Nat.reduceMul, Nat.reduceSub, Nat.add_zero, Nat.zero_add, Int.reduceEq, Int.reduceLT, ld_134, hk2.lda (rdC_len ..), st_134, st_all (n := 2) (vs := rdC vb2 (numS s 4).1.code) hh22 rfl rfl rfl (rdC_one h1)]
        refine hK _ _ _ (by simp only [go_sem, Nat.reduceEqDiff, Nat.reduceLT, Nat.reduceAdd, Nat.reduceMul, Nat.reduceSub, Nat.add_zero, Nat.zero_add, Int.reduceEq, Int.reduceLT]; rfl) ?_; clear hK
        obtain ⟨hgz, hhz⟩ := mk_put hg02 (Nat.le_succ _) hh22.2 ⟨rdC vb2 (numS s 4).1.code, 134, true⟩
        refine AWP.ret (Then.ret (?_))
        rw [e]
        exact Fin.keep (v := .tuple #[.agg (rdC vb2 (numS s 4).1.code).toArray, .slice none 0 0]) ⟨.inr rfl, rfl⟩ (by simp only [go_sem, Nat.reduceEqDiff, Nat.reduceLT, Nat.reduceAdd, Nat.reduceMul, Nat.reduceSub, Nat.add_zero, Nat.zero_add, Int.reduceEq, Int.reduceLT, retV, resV, ld_134, hhz.lda (rdC_len ..)] <;> rfl) ⟨hgz, _, _, rfl, ⟨vb2, rfl, hE2, hd2⟩, .inl ⟨rfl, rfl⟩⟩
      · have h0 : (numS s 4).1.code = 0 := by simpa using h33
        have e : textS s = takeS (numS s 4).1 (numS s 4).2 := by rw [textS, e0, if_neg (by simpa using h0)]
        obtain ⟨r3, M3, hc3, hg3, w3, u3, rfl, ⟨vb3, rfl, hE3, hd3⟩, hu3⟩ := bytes106_spec _ (numS s 4).1 (numS s 4).2 M0 M2 (hg02.ok hok) (hg0.trans hg02) (hv2'.k _) (by omega)
        have hh23 := hh22.grew hg3
        refine AWP.skip ?_
        refine AWP.stepR [6, 7] fun K hK => ?_
        simp only [go_sem, Nat.reduceEqDiff, Nat.reduceLT, Nat.reduceAdd, Nat.reduceMul, Nat.reduceSub, Nat.add_zero, Nat.zero_add, Int.reduceEq, Int.reduceLT, ld_134, hk2.lda (rdC_len ..), i64w (n := (numS s 4).2) (by omega) (by omega)]
        refine ⟨_, _, hc3, ?_⟩
        try simp only [go_sem, Nat.reduceEqDiff, Nat.reduceLT, Nat.reduceAdd, Nat.reduceMul, Nat.reduceSub, Nat.add_zero, Nat.zero_add, Int.reduceEq, Int.reduceLT, extractV, st_134, st_all (n := 2) (vs := rdC vb3 (takeS (numS s 4).1 (numS s 4).2).1.code) hh23 rfl rfl rfl (rdC_one hE3.one)]
        refine hK _ _ _ (by simp only [go_sem, Nat.reduceEqDiff, Nat.reduceLT, Nat.reduceAdd, Nat.reduceMul, Nat.reduceSub, Nat.add_zero, Nat.zero_add, Int.reduceEq, Int.reduceLT]; rfl) ?_; clear hK
        obtain ⟨hgz, hhz⟩ := mk_put (hg02.trans hg3) (Nat.le_succ _) hh23.2 ⟨rdC vb3 (takeS (numS s 4).1 (numS s 4).2).1.code, 134, true⟩
        refine AWP.ret (?_)
        rw [e]
        exact Fin.keep (v := .tuple #[.agg (rdC vb3 (takeS (numS s 4).1 (numS s 4).2).1.code).toArray, u3]) ⟨.inr rfl, rfl⟩ (by simp only [go_sem, Nat.reduceEqDiff, Nat.reduceLT, Nat.reduceAdd, Nat.reduceMul, Nat.reduceSub, Nat.add_zero, Nat.zero_add, Int.reduceEq, Int.reduceLT, retV, resV, ld_134, hhz.lda (rdC_len ..)] <;> rfl) ⟨hgz, _, _, rfl, ⟨vb3, rfl, hE3, hd3⟩, hu3⟩
end Go.Proofs.YtopblipficpilaaGreatDoor.AY

/- Many in one, as bytes: bulk.Put and the document's. -/
namespace Go.Proofs.YtopblipficpilaaGreatDoor.AY
open Go Go.Proofs
set_option maxRecDepth 100000
set_option linter.unusedVariables false
set_option linter.unusedSimpArgs false

theorem u8w_ {n : Int} (h : 0 ≤ n) (h' : n < 256) : IntKind.u8.wrap n = n := by simp [IntKind.wrap, IntKind.signed, IntKind.bits, IntKind.min, IntKind.max]; omega
/-- one with its length ahead -/
def itemB (l : List Int) : List Int := putB l.length 4 ++ l
def encP (on : Bool) (n : Nat) (ls : List (List Int)) : List Int := (if on then 1 else 0) :: (n : Int) :: (ls.map itemB).flatten
def putK (on : Bool) (ls : List (List Int)) : List Int × Int := if ls.length > 64 then ([], 16) else (encP on ls.length ls, 0)
theorem itemB_len (l : List Int) : (itemB l).length = 4 + l.length := by rw [itemB, List.length_append, putB_length]
theorem items_len {B : Nat} : ∀ {ls : List (List Int)}, (∀ l, l ∈ ls → l.length ≤ B) → (ls.map itemB).flatten.length ≤ (B + 4) * ls.length := by
  intro ls
  induction ls with
  | nil => intro _; simp
  | cons l ls ih =>
    intro h
    have h1 := h l (by simp)
    have h2 := ih fun x hx => h x (by simp [hx])
    rw [List.map_cons, List.flatten_cons, List.length_append, itemB_len, List.length_cons, Nat.mul_succ]
    omega
theorem encP_len {B : Nat} (on : Bool) (n : Nat) {ls : List (List Int)} (h : ∀ l, l ∈ ls → l.length ≤ B) : (encP on n ls).length ≤ 2 + (B + 4) * ls.length := by
  have := items_len h
  simp only [encP, List.length_cons]; omega
theorem encP_succ (on : Bool) (n : Nat) (ls : List (List Int)) {i : Nat} (h : i < ls.length) : encP on n (ls.take (i + 1)) = encP on n (ls.take i) ++ itemB ls[i] := by
  simp only [encP, List.take_succ_eq_append_getElem h, List.map_append, List.flatten_append, List.cons_append, List.map_cons, List.map_nil, List.flatten_cons, List.flatten_nil, List.append_nil]
theorem encP_byt {on : Bool} {n : Nat} {ls : List (List Int)} (hn : n < 256) (h : ∀ l, l ∈ ls → BytB l) : BytB (encP on n ls) := by
  intro x hx
  simp only [encP, List.mem_cons, List.mem_flatten, List.mem_map] at hx
  rcases hx with rfl | rfl | ⟨_, ⟨l, hl, rfl⟩, hx⟩
  · split <;> omega
  · omega
  · rcases List.mem_append.1 hx with hx | hx
    · exact putB_byt 4 _ x hx
    · exact h l hl x hx
theorem take_mem {α : Type} {ls : List α} {i : Nat} {P : α → Prop} (h : ∀ l, l ∈ ls → P l) : ∀ l, l ∈ ls.take i → P l := fun l hl => h l (List.mem_of_mem_take hl)

theorem put25_spec (on : Bool) (v : Value) (vs : List Value) (ls : List (List Int)) (M : Mem) (hok : Ok M) (hv : Row_ M v vs.length vs) (hp : Parts M vs ls) (hl : ls.length ≤ 64 → ∀ l, l ∈ ls → l.length ≤ 3000) :
    ∃ r M', ACall Tryz.prog 25 #[.bool on, v] M r M' ∧ Grew M M' ∧ ∃ b, r = .tuple #[b, .int .i64 (putK on ls).2] ∧ OwnB M M' b (putK on ls).1 5 := by
  refine ACall.fin (args := [.bool on, v]) (k := 38) Tryz.func25 rfl rfl rfl (Nat.le_of_ble_eq_true rfl) ?_
  have hpl := hp.1
  refine AWP.stepR [0, 1] fun K hK => ?_ -- r0
  simp only [go_sem, Nat.reduceEqDiff, Nat.reduceLT, Nat.reduceAdd, Nat.reduceMul, Nat.reduceSub, Nat.add_zero, Nat.zero_add, Int.reduceEq, Int.reduceLT]
  refine hK _ _ _ (by simp only [go_sem, Nat.reduceEqDiff, Nat.reduceLT, Nat.reduceAdd, Nat.reduceMul, Nat.reduceSub, Nat.add_zero, Nat.zero_add, Int.reduceEq, Int.reduceLT]; rfl) ?_; clear hK
  refine AWP.seq ?_
  refine AWP.stepR [0, 1, 11] fun K hK => ?_ -- r1
  simp only [go_sem, Nat.reduceEqDiff, Nat.reduceLT, Nat.reduceAdd, Nat.reduceMul, Nat.reduceSub, Nat.add_zero, Nat.zero_add, Int.reduceEq, Int.reduceLT, hv.len es_59]
  refine hK _ _ _ (by simp only [go_sem, Nat.reduceEqDiff, Nat.reduceLT, Nat.reduceAdd, Nat.reduceMul, Nat.reduceSub, Nat.add_zero, Nat.zero_add, Int.reduceEq, Int.reduceLT]; rfl) ?_; clear hK
  refine AWP.cond_split rfl (fun h11 => ?_) fun h11 => ?_
  · have h64 : ls.length > 64 := by have := of_decide_eq_true h11; omega
    refine AWP.stepR [4, 5] fun K hK => ?_ -- r2
    simp only [go_sem, Nat.reduceEqDiff, Nat.reduceLT, Nat.reduceAdd, Nat.reduceMul, Nat.reduceSub, Nat.add_zero, Nat.zero_add, Int.reduceEq, Int.reduceLT]
    refine hK _ _ _ (by simp only [go_sem, Nat.reduceEqDiff, Nat.reduceLT, Nat.reduceAdd, Nat.reduceMul, Nat.reduceSub, Nat.add_zero, Nat.zero_add, Int.reduceEq, Int.reduceLT]; rfl) ?_; clear hK
    refine AWP.ret (Then.ret (?_))
    exact Fin.keep (v := .tuple #[.slice none 0 0, .int .i64 16]) ⟨.inr rfl, rfl⟩ rfl ⟨Grew.refl _, _, by rw [putK, if_pos h64], by rw [putK, if_pos h64]; exact Own.nil _ _ _⟩
  · have h64 : ¬ ls.length > 64 := by have := of_decide_eq_false h11; omega
    have hl := hl (by omega)
    refine AWP.skip ?_
    refine AWP.stepR [0, 1, 6] fun K hK => ?_ -- r3
    simp only [go_sem, Nat.reduceEqDiff, Nat.reduceLT, Nat.reduceAdd, Nat.reduceMul, Nat.reduceSub, Nat.add_zero, Nat.zero_add, Int.reduceEq, Int.reduceLT, hv.len es_59, u8w_ (n := (vs.length : Int)) (by omega) (by omega)]
    refine hK _ _ _ (by simp only [go_sem, Nat.reduceEqDiff, Nat.reduceLT, Nat.reduceAdd, Nat.reduceMul, Nat.reduceSub, Nat.add_zero, Nat.zero_add, Int.reduceEq, Int.reduceLT]; rfl) ?_; clear hK
    have hlt1 : M.next < (M.bump 1).next := Nat.lt_succ_self _
    obtain ⟨hg1, hh1⟩ := mk_put ((Grew.refl M).bump 1) (Nat.le_refl _) hlt1 ⟨[.int .u8 0, .int .u8 (vs.length : Int)], 5, true⟩
    generalize hM1 : (M.bump 1).put M.next ⟨[.int .u8 0, .int .u8 (vs.length : Int)], 5, true⟩ = M1 at hg1 hh1
    refine AWP.seq ?_
    refine AWP.stepR [1, 6, 16] fun K hK => ?_ -- r4
    simp only [go_sem, Nat.reduceEqDiff, Nat.reduceLT, Nat.reduceAdd, Nat.reduceMul, Nat.reduceSub, Nat.add_zero, Nat.zero_add, Int.reduceEq, Int.reduceLT]
    refine hK _ _ _ (by simp only [go_sem, Nat.reduceEqDiff, Nat.reduceLT, Nat.reduceAdd, Nat.reduceMul, Nat.reduceSub, Nat.add_zero, Nat.zero_add, Int.reduceEq, Int.reduceLT]; rfl) ?_; clear hK
    refine AWP.condG rfl [1, 6] [(1, v), (6, .slice (some ⟨M.next, 0, none⟩) 2 2)] (fun M' => Grew M M' ∧ Has M' M.next ⟨cB (encP on ls.length []), 5, true⟩) (fun h16 => ?_) (fun h16 => ?_) fun M2 h2 => ?_
    · have fs := st_cellX (o := 0) (v := .int .u8 1) hh1 rfl (show 0 < 2 by decide) rfl
      have fs : stV M1 M.next 0 1 (.int .u8 1) = some (M1.put M.next ⟨[.int .u8 1, .int .u8 (vs.length : Int)], 5, true⟩) := fs
      refine AWP.lastR fun K hK => ?_ -- r5
      simp only [go_sem, Nat.reduceEqDiff, Nat.reduceLT, Nat.reduceAdd, Nat.reduceMul, Nat.reduceSub, Nat.add_zero, Nat.zero_add, Int.reduceEq, Int.reduceLT, show ((0 : Int) ≤ 0 ∧ (0 : Int) < ((2 : Nat) : Int)) = True by simp, if_true, Int.toNat_zero, fs]
      refine hK _ _ ?_; clear hK
      refine ⟨rfl, rfl, hg1.put (Nat.le_refl _) hh1.2 _, ?_⟩
      rw [h16]
      rw [show cB (encP true ls.length []) = [.int .u8 1, .int .u8 (vs.length : Int)] by rw [hpl]; rfl]
      exact Has.put hh1.2 _
    · refine AWP.skip ?_
      refine ⟨rfl, rfl, hg1, ?_⟩
      rw [h16]
      rw [show cB (encP false ls.length []) = [.int .u8 0, .int .u8 (vs.length : Int)] by rw [hpl]; rfl]
      exact hh1
    obtain ⟨hg2, hh2⟩ := h2
    refine AWP.seq ?_
    refine AWP.stepR [6, 19, 20, 21] fun K hK => ?_ -- r6
    simp only [go_sem, Nat.reduceEqDiff, Nat.reduceLT, Nat.reduceAdd, Nat.reduceMul, Nat.reduceSub, Nat.add_zero, Nat.zero_add, Int.reduceEq, Int.reduceLT, (hv.grew hg2).len es_59]
    refine hK _ _ _ (by simp only [go_sem, Nat.reduceEqDiff, Nat.reduceLT, Nat.reduceAdd, Nat.reduceMul, Nat.reduceSub, Nat.add_zero, Nat.zero_add, Int.reduceEq, Int.reduceLT]; rfl) ?_; clear hK
    refine AWP.block ?_ -- b0
    refine AWP.loopK [6, 19, 20, 21] (fun n e M0 => ∃ b, n ≤ ls.length ∧ e = [(6, b), (19, v), (20, .int .i64 (vs.length : Int)), (21, .int .i64 ((vs.length - n : Nat) : Int))] ∧ Grew M M0 ∧ RowB M0 b (encP on ls.length (ls.take (ls.length - n))) ∧ OwnB M M0 b (encP on ls.length (ls.take (ls.length - n))) 5) ls.length ?_ fun n e M0 hI => ?_ -- LOOP
    · have ho : OwnB M M2 (.slice (some ⟨M.next, 0, none⟩) 2 2) (encP on ls.length []) 5 := .inr ⟨M.next, _, _, Nat.le_refl _, hh2.2, rfl, (rowsOf_some hh2.1).1, rfl, ⟨rfl, rfl⟩, .inr rfl⟩
      refine ⟨_, Nat.le_refl _, by simp only [go_sem, Nat.reduceEqDiff, Nat.reduceLT, Nat.reduceAdd, Nat.reduceMul, Nat.reduceSub, Nat.add_zero, Nat.zero_add, Int.reduceEq, Int.reduceLT, hpl, Nat.sub_self]; rfl, hg2, ?_, ?_⟩
      · rw [Nat.sub_self, List.take_zero]; exact ho.row
      · rw [Nat.sub_self, List.take_zero]; exact ho
    obtain ⟨b, hn, rfl, hg0, hrb, hob⟩ := hI
    refine AWP.stepR [6, 19, 20, 21, 22] fun K hK => ?_ -- r7
    simp only [go_sem, Nat.reduceEqDiff, Nat.reduceLT, Nat.reduceAdd, Nat.reduceMul, Nat.reduceSub, Nat.add_zero, Nat.zero_add, Int.reduceEq, Int.reduceLT]
    refine hK _ _ _ (by simp only [go_sem, Nat.reduceEqDiff, Nat.reduceLT, Nat.reduceAdd, Nat.reduceMul, Nat.reduceSub, Nat.add_zero, Nat.zero_add, Int.reduceEq, Int.reduceLT]; rfl) ?_; clear hK
    refine AWP.condS rfl (fun h22 => ?_) fun h22 => ?_
    · have hlt : vs.length - n < vs.length := by simpa using h22
      generalize hi : vs.length - n = i at *
      have hli : ls.length - n = i := by omega
      rw [hli] at hrb hob
      have hvi : vs[i]? = some vs[i] := List.getElem?_eq_getElem hlt
      have hlt' : i < ls.length := by omega
      have hri : RowB M vs[i] ls[i] := hp.at hlt hlt'
      have hli3 : ls[i].length ≤ 3000 := hl _ (List.getElem_mem hlt')
      obtain ⟨bb, q, ha, hd⟩ := hv.at1 rfl es_59 hlt
      have hd := hd M0 hg0
      rw [hvi] at hd
      have hsucc := encP_succ on ls.length ls hlt'
      generalize vs[i] = x at hvi hri hd
      generalize hy : ls[i] = y at hri hli3 hsucc
      refine AWP.skip ?_
      refine AWP.seq ?_
      refine AWP.block ?_ -- b1
      refine AWP.stepR [6, 8, 19, 20, 21] fun K hK => ?_ -- r8
      simp only [go_sem, Nat.reduceEqDiff, Nat.reduceLT, Nat.reduceAdd, Nat.reduceMul, Nat.reduceSub, Nat.add_zero, Nat.zero_add, Int.reduceEq, Int.reduceLT, ha, ld_42, hd]
      refine hK _ _ _ (by simp only [go_sem, Nat.reduceEqDiff, Nat.reduceLT, Nat.reduceAdd, Nat.reduceMul, Nat.reduceSub, Nat.add_zero, Nat.zero_add, Int.reduceEq, Int.reduceLT]; rfl) ?_; clear hK
      refine AWP.seq ?_
      refine AWP.stepR [6, 8, 19, 20, 21, 27] fun K hK => ?_ -- r9
      simp only [go_sem, Nat.reduceEqDiff, Nat.reduceLT, Nat.reduceAdd, Nat.reduceMul, Nat.reduceSub, Nat.add_zero, Nat.zero_add, Int.reduceEq, Int.reduceLT, (hri.grew hg0).len es_42]
      refine hK _ _ _ (by simp only [go_sem, Nat.reduceEqDiff, Nat.reduceLT, Nat.reduceAdd, Nat.reduceMul, Nat.reduceSub, Nat.add_zero, Nat.zero_add, Int.reduceEq, Int.reduceLT]; rfl) ?_; clear hK
      refine AWP.cond_split rfl (fun h27 => ?_) fun h27 => ?_
      · have := of_decide_eq_true h27; omega
      · refine AWP.skip ?_
        obtain ⟨r3, M3, hc3, hg3, ho3⟩ := put56_spec 4 (y.length : Int) (M0.bump 1) (((Grew.refl M0).bump 1).ok (hg0.ok hok)) (by omega) (by decide) (by decide)
        have hlt3 : M0.next < M3.next := by have := hg3.next; rw [Mem.next_bump] at this; omega
        have hgx : Grew M0 M3 := ((Grew.refl M0).bump 1).trans hg3
        obtain ⟨hg4, hh4⟩ := mk_put hgx (Nat.le_refl _) hlt3 ⟨[b, r3, x], 42, true⟩
        have ho4 := (ho3.put (show M0.next < (M0.bump 1).next from Nat.lt_succ_self _) ⟨[b, r3, x], 42, true⟩)
        have hlen := encP_len on ls.length (take_mem (i := i) hl)
        have htk : (ls.take i).length ≤ 64 := by rw [List.length_take]; omega
        have hfl : [encP on ls.length (ls.take i), putB (y.length : Int) 4, y].flatten = encP on ls.length (ls.take (i + 1)) := by rw [hsucc, itemB]; simp
        obtain ⟨r5, M5, hc5, hg5, ho5⟩ := join55_spec (.slice (some ⟨M0.next, 0, none⟩) 3 3) [b, r3, x] [encP on ls.length (ls.take i), putB (y.length : Int) 4, y] (M3.put M0.next ⟨[b, r3, x], 42, true⟩) (hg4.ok (hg0.ok hok)) (Row_.of hh4)
          (.cons (hrb.grew hg4) (.cons ho4.row (.cons (hri.grew (hg0.trans hg4)) (.nil _)))) (by simp only [List.flatten_cons, List.flatten_nil, List.length_append, putB_length, List.length_nil]; omega) (by simp) (by rw [hfl]; simp [encP])
        rw [hfl] at ho5
        refine AWP.lastR fun K hK => ?_ -- r11
        simp only [go_sem, Nat.reduceEqDiff, Nat.reduceLT, Nat.reduceAdd, Nat.reduceMul, Nat.reduceSub, Nat.add_zero, Nat.zero_add, Int.reduceEq, Int.reduceLT, (hri.grew hg0).len es_42, (hri.grew ((hg0.bump 1))).len es_42, u64w (n := (y.length : Int)) (by omega) (by omega)]
        refine ⟨_, _, hc3, ?_⟩
        simp only [go_sem, Nat.reduceEqDiff, Nat.reduceLT, Nat.reduceAdd, Nat.reduceMul, Nat.reduceSub, Nat.add_zero, Nat.zero_add, Int.reduceEq, Int.reduceLT, hrb.one, ho3.row.one, hri.one, Bool.and_true, cond_true]
        refine ⟨_, _, hc5, ?_⟩
        try simp only [go_sem, Nat.reduceEqDiff, Nat.reduceLT, Nat.reduceAdd, Nat.reduceMul, Nat.reduceSub, Nat.add_zero, Nat.zero_add, Int.reduceEq, Int.reduceLT]
        refine hK _ _ ?_; clear hK
        refine AWP.lastR fun K hK => ?_ -- r12
        simp only [go_sem, Nat.reduceEqDiff, Nat.reduceLT, Nat.reduceAdd, Nat.reduceMul, Nat.reduceSub, Nat.add_zero, Nat.zero_add, Int.reduceEq, Int.reduceLT]
        rw [i64w (by omega) (by omega)]
        refine hK _ _ ?_; clear hK
        refine ⟨rfl, n - 1, by omega, r5, by omega, ?_, hg0.trans (hg4.trans hg5), ?_, ?_⟩ -- ROUND
        · simp only [go_sem, Nat.reduceEqDiff, Nat.reduceLT, Nat.reduceAdd, Nat.reduceMul, Nat.reduceSub, Nat.add_zero, Nat.zero_add, Int.reduceEq, Int.reduceLT]
          rw [show ((i : Int) + 1) = ((vs.length - (n - 1) : Nat) : Int) by omega]
        · rw [show ls.length - (n - 1) = i + 1 by omega]; exact ho5.row
        · rw [show ls.length - (n - 1) = i + 1 by omega]; exact ho5.base (hg0.trans hg4).next
    · have hn0 : n = 0 := by have := of_decide_eq_false h22; omega
      subst hn0
      rw [Nat.sub_zero, List.take_length] at hob
      refine AWP.exit (Then.exit (Then.exit (InBlock.same ?_))) -- x0
      refine AWP.stepR [4, 5] fun K hK => ?_ -- r13
      simp only [go_sem, Nat.reduceEqDiff, Nat.reduceLT, Nat.reduceAdd, Nat.reduceMul, Nat.reduceSub, Nat.add_zero, Nat.zero_add, Int.reduceEq, Int.reduceLT]
      refine hK _ _ _ (by simp only [go_sem, Nat.reduceEqDiff, Nat.reduceLT, Nat.reduceAdd, Nat.reduceMul, Nat.reduceSub, Nat.add_zero, Nat.zero_add, Int.reduceEq, Int.reduceLT]; rfl) ?_; clear hK
      refine AWP.ret (?_)
      exact Fin.keep (v := .tuple #[b, .int .i64 0]) ⟨.inr rfl, rfl⟩ rfl ⟨hg0, b, by rw [putK, if_neg h64], by rw [putK, if_neg h64]; exact hob⟩
end Go.Proofs.YtopblipficpilaaGreatDoor.AY

/- Many in one, as bytes: the document's Put. -/
namespace Go.Proofs.YtopblipficpilaaGreatDoor.AY
open Go Go.Proofs
set_option maxRecDepth 100000
set_option linter.unusedVariables false
set_option linter.unusedSimpArgs false

theorem cB_oneC (l : List Int) : oneCells (cB l) = true := by simp [oneCells, cB, Value.oneCell']
theorem put26_spec (on : Bool) (v : Value) (vs : List Value) (ls : List (List Int)) (M : Mem) (hok : Ok M) (hv : Row_ M v vs.length vs) (hp : Parts M vs ls) (hl : ls.length ≤ 64 → ∀ l, l ∈ ls → l.length ≤ 3000) :
    ∃ r M', ACall Tryz.prog 26 #[.bool on, v] M r M' ∧ Grew M M' ∧ ∃ b, r = .tuple #[b, .int .i64 (putK on ls).2] ∧ OwnB M M' b (putK on ls).1 5 := by
  refine ACall.fin (args := [.bool on, v]) (k := 48) Tryz.func26 rfl rfl rfl (Nat.le_of_ble_eq_true rfl) ?_
  have hpl := hp.1
  refine AWP.stepR [0, 1] fun K hK => ?_ -- r0
  simp only [go_sem, Nat.reduceEqDiff, Nat.reduceLT, Nat.reduceAdd, Nat.reduceMul, Nat.reduceSub, Nat.add_zero, Nat.zero_add, Int.reduceEq, Int.reduceLT]
  refine hK _ _ _ (by simp only [go_sem, Nat.reduceEqDiff, Nat.reduceLT, Nat.reduceAdd, Nat.reduceMul, Nat.reduceSub, Nat.add_zero, Nat.zero_add, Int.reduceEq, Int.reduceLT]; rfl) ?_; clear hK
  refine AWP.seq ?_
  refine AWP.stepR [0, 1, 10] fun K hK => ?_ -- r1
  simp only [go_sem, Nat.reduceEqDiff, Nat.reduceLT, Nat.reduceAdd, Nat.reduceMul, Nat.reduceSub, Nat.add_zero, Nat.zero_add, Int.reduceEq, Int.reduceLT, hv.len es_59]
  refine hK _ _ _ (by simp only [go_sem, Nat.reduceEqDiff, Nat.reduceLT, Nat.reduceAdd, Nat.reduceMul, Nat.reduceSub, Nat.add_zero, Nat.zero_add, Int.reduceEq, Int.reduceLT]; rfl) ?_; clear hK
  refine AWP.cond_split rfl (fun h10 => ?_) fun h10 => ?_
  · have h64 : ls.length > 64 := by have := of_decide_eq_true h10; omega
    refine AWP.stepR [4, 5] fun K hK => ?_ -- r2
    simp only [go_sem, Nat.reduceEqDiff, Nat.reduceLT, Nat.reduceAdd, Nat.reduceMul, Nat.reduceSub, Nat.add_zero, Nat.zero_add, Int.reduceEq, Int.reduceLT]
    refine hK _ _ _ (by simp only [go_sem, Nat.reduceEqDiff, Nat.reduceLT, Nat.reduceAdd, Nat.reduceMul, Nat.reduceSub, Nat.add_zero, Nat.zero_add, Int.reduceEq, Int.reduceLT]; rfl) ?_; clear hK
    refine AWP.ret (Then.ret (?_))
    exact Fin.keep (v := .tuple #[.slice none 0 0, .int .i64 16]) ⟨.inr rfl, rfl⟩ rfl ⟨Grew.refl _, _, by rw [putK, if_pos h64], by rw [putK, if_pos h64]; exact Own.nil _ _ _⟩
  · have h64 : ¬ ls.length > 64 := by have := of_decide_eq_false h10; omega
    have hl := hl (by omega)
    refine AWP.skip ?_
    refine AWP.stepR [0, 1, 6] fun K hK => ?_ -- r3
    simp only [go_sem, Nat.reduceEqDiff, Nat.reduceLT, Nat.reduceAdd, Nat.reduceMul, Nat.reduceSub, Nat.add_zero, Nat.zero_add, Int.reduceEq, Int.reduceLT, hv.len es_59, u8w_ (n := (vs.length : Int)) (by omega) (by omega)]
    refine hK _ _ _ (by simp only [go_sem, Nat.reduceEqDiff, Nat.reduceLT, Nat.reduceAdd, Nat.reduceMul, Nat.reduceSub, Nat.add_zero, Nat.zero_add, Int.reduceEq, Int.reduceLT]; rfl) ?_; clear hK
    have hlt1 : M.next < (M.bump 1).next := Nat.lt_succ_self _
    obtain ⟨hg1, hh1⟩ := mk_put ((Grew.refl M).bump 1) (Nat.le_refl _) hlt1 ⟨[.int .u8 0, .int .u8 (vs.length : Int)], 5, true⟩
    generalize hM1 : (M.bump 1).put M.next ⟨[.int .u8 0, .int .u8 (vs.length : Int)], 5, true⟩ = M1 at hg1 hh1
    refine AWP.seq ?_
    refine AWP.stepR [1, 6, 15] fun K hK => ?_ -- r4
    simp only [go_sem, Nat.reduceEqDiff, Nat.reduceLT, Nat.reduceAdd, Nat.reduceMul, Nat.reduceSub, Nat.add_zero, Nat.zero_add, Int.reduceEq, Int.reduceLT]
    refine hK _ _ _ (by simp only [go_sem, Nat.reduceEqDiff, Nat.reduceLT, Nat.reduceAdd, Nat.reduceMul, Nat.reduceSub, Nat.add_zero, Nat.zero_add, Int.reduceEq, Int.reduceLT]; rfl) ?_; clear hK
    refine AWP.seqE [1, 6] (fun b => [(1, v), (6, b)]) (fun b M' => Grew M M' ∧ OwnB M M' b (encP on ls.length []) 5) ?_ fun b M2 h2 => ?_
    · refine AWP.cond_split rfl (fun h15 => ?_) fun h15 => ?_
      · refine AWP.lastR fun K hK => ?_ -- r5
        simp only [go_sem, Nat.reduceEqDiff, Nat.reduceLT, Nat.reduceAdd, Nat.reduceMul, Nat.reduceSub, Nat.add_zero, Nat.zero_add, Int.reduceEq, Int.reduceLT, (hv.grew hg1).len es_59, u8w_ (n := (vs.length : Int)) (by omega) (by omega)]
        refine hK _ _ ?_; clear hK
        have hlt2 : M1.next < (M1.bump 1).next := Nat.lt_succ_self _
        obtain ⟨hg2, hh2⟩ := mk_put (hg1.bump 1) hg1.next hlt2 ⟨[.int .u8 1, .int .u8 (vs.length : Int)], 5, true⟩
        refine ⟨_, rfl, rfl, hg2, ?_⟩
        rw [h15]
        exact .inr ⟨M1.next, _, _, hg1.next, hh2.2, rfl, (rowsOf_some hh2.1).1, rfl, ⟨rfl, rfl⟩, .inr (by rw [hpl]; rfl)⟩
      · refine AWP.skip ?_
        refine ⟨_, rfl, rfl, hg1, ?_⟩
        rw [h15]
        exact .inr ⟨M.next, _, _, Nat.le_refl _, hh1.2, rfl, (rowsOf_some hh1.1).1, rfl, ⟨rfl, rfl⟩, .inr (by rw [hpl]; rfl)⟩
    obtain ⟨hg2, hb2⟩ := h2
    refine AWP.seq ?_
    refine AWP.stepR [1, 6, 7] fun K hK => ?_ -- r6
    simp only [go_sem, Nat.reduceEqDiff, Nat.reduceLT, Nat.reduceAdd, Nat.reduceMul, Nat.reduceSub, Nat.add_zero, Nat.zero_add, Int.reduceEq, Int.reduceLT]
    refine hK _ _ _ (by simp only [go_sem, Nat.reduceEqDiff, Nat.reduceLT, Nat.reduceAdd, Nat.reduceMul, Nat.reduceSub, Nat.add_zero, Nat.zero_add, Int.reduceEq, Int.reduceLT]; rfl) ?_; clear hK
    refine AWP.block ?_ -- b0
    refine AWP.loopK [1, 6, 7] (fun n e M0 => ∃ b, n ≤ ls.length ∧ e = [(1, v), (6, b), (7, .int .i64 ((vs.length - n : Nat) : Int))] ∧ Grew M M0 ∧ OwnB M M0 b (encP on ls.length (ls.take (ls.length - n))) 5) ls.length ?_ fun n e M0 hI => ?_ -- LOOP
    · refine ⟨b, Nat.le_refl _, by simp only [go_sem, Nat.reduceEqDiff, Nat.reduceLT, Nat.reduceAdd, Nat.reduceMul, Nat.reduceSub, Nat.add_zero, Nat.zero_add, Int.reduceEq, Int.reduceLT, hpl, Nat.sub_self]; rfl, hg2, ?_⟩
      rw [Nat.sub_self, List.take_zero]; exact hb2
    obtain ⟨b, hn, rfl, hg0, hob⟩ := hI
    refine AWP.seq ?_
    refine AWP.stepR [1, 6, 7, 23] fun K hK => ?_ -- r7
    simp only [go_sem, Nat.reduceEqDiff, Nat.reduceLT, Nat.reduceAdd, Nat.reduceMul, Nat.reduceSub, Nat.add_zero, Nat.zero_add, Int.reduceEq, Int.reduceLT, (hv.grew hg0).len es_59]
    refine hK _ _ _ (by simp only [go_sem, Nat.reduceEqDiff, Nat.reduceLT, Nat.reduceAdd, Nat.reduceMul, Nat.reduceSub, Nat.add_zero, Nat.zero_add, Int.reduceEq, Int.reduceLT]; rfl) ?_; clear hK
    refine AWP.cond_split rfl (fun h23 => ?_) fun h23 => ?_
    · have hlt : vs.length - n < vs.length := by simpa using h23
      generalize hi : vs.length - n = i at *
      have hli : ls.length - n = i := by omega
      rw [hli] at hob
      have hvi : vs[i]? = some vs[i] := List.getElem?_eq_getElem hlt
      have hlt' : i < ls.length := by omega
      have hri : RowB M vs[i] ls[i] := hp.at hlt hlt'
      have hli3 : ls[i].length ≤ 3000 := hl _ (List.getElem_mem hlt')
      obtain ⟨bb, q, ha, hd⟩ := hv.at1 rfl es_59 hlt
      have hsucc := encP_succ on ls.length ls hlt'
      rw [hvi] at hd
      generalize vs[i] = x at hvi hri hd
      generalize hy : ls[i] = y at hri hli3 hsucc
      have hlen := encP_len on ls.length (take_mem (i := i) hl)
      have htk : (ls.take i).length ≤ 64 := by rw [List.length_take]; omega
      refine AWP.skip ?_
      refine AWP.seq ?_
      refine AWP.block ?_ -- b1
      refine AWP.seq ?_
      refine AWP.stepR [1, 6, 7, 31] fun K hK => ?_ -- r9
      simp only [go_sem, Nat.reduceEqDiff, Nat.reduceLT, Nat.reduceAdd, Nat.reduceMul, Nat.reduceSub, Nat.add_zero, Nat.zero_add, Int.reduceEq, Int.reduceLT, ha, ld_42, hd M0 hg0, (hri.grew hg0).len es_42]
      refine hK _ _ _ (by simp only [go_sem, Nat.reduceEqDiff, Nat.reduceLT, Nat.reduceAdd, Nat.reduceMul, Nat.reduceSub, Nat.add_zero, Nat.zero_add, Int.reduceEq, Int.reduceLT]; rfl) ?_; clear hK
      refine AWP.cond_split rfl (fun h31 => ?_) fun h31 => ?_
      · have := of_decide_eq_true h31; omega
      · refine AWP.skip ?_
        obtain ⟨r3, M3, hc3, hg3, ho3⟩ := put57_spec 4 (y.length : Int) M0 (hg0.ok hok) (by omega) (by decide)
        obtain ⟨v4, M4, happ, hown4, hg4, hnx4, hfr4⟩ := Own.append ap_42_42 (hg0.trans hg3) (hob.grew hg3) (by simp [cB]) (ho3.row.content (sz := 1) (by simp [cB])) (cB_oneC _) (by rw [putB_length]; omega)
        refine AWP.stepR [1, 6, 7] fun K hK => ?_ -- r11
        simp only [go_sem, Nat.reduceEqDiff, Nat.reduceLT, Nat.reduceAdd, Nat.reduceMul, Nat.reduceSub, Nat.add_zero, Nat.zero_add, Int.reduceEq, Int.reduceLT, ha, ld_42, hd M0 hg0, (hri.grew hg0).len es_42, u64w (n := (y.length : Int)) (by omega) (by omega)]
        refine ⟨_, _, hc3, ?_⟩
        simp only [happ, go_sem, Nat.reduceEqDiff, Nat.reduceLT, Nat.reduceAdd, Nat.reduceMul, Nat.reduceSub, Nat.add_zero, Nat.zero_add, Int.reduceEq, Int.reduceLT]
        refine hK _ _ _ (by simp only [go_sem, Nat.reduceEqDiff, Nat.reduceLT, Nat.reduceAdd, Nat.reduceMul, Nat.reduceSub, Nat.add_zero, Nat.zero_add, Int.reduceEq, Int.reduceLT]; rfl) ?_; clear hK
        rw [← cB_append, ← List.length_append] at hown4
        have hg24 : Grew M M4 := hg4
        obtain ⟨v5, M5, happ5, hown5, hg5, hnx5, hfr5⟩ := Own.append ap_42_42 hg24 hown4 (by simp [cB]) ((hri.grew hg24).content (sz := 1) (by simp [cB])) (cB_oneC _) (by rw [List.length_append, putB_length]; omega)
        refine AWP.lastR fun K hK => ?_ -- r12
        simp only [go_sem, Nat.reduceEqDiff, Nat.reduceLT, Nat.reduceAdd, Nat.reduceMul, Nat.reduceSub, Nat.add_zero, Nat.zero_add, Int.reduceEq, Int.reduceLT, ha, ld_42, hd M4 hg24, happ5]
        refine hK _ _ ?_; clear hK
        rw [← cB_append, ← List.length_append, List.append_assoc, show putB (y.length : Int) 4 ++ y = itemB y from rfl, ← hsucc] at hown5
        refine AWP.lastR fun K hK => ?_ -- r8
        simp only [go_sem, Nat.reduceEqDiff, Nat.reduceLT, Nat.reduceAdd, Nat.reduceMul, Nat.reduceSub, Nat.add_zero, Nat.zero_add, Int.reduceEq, Int.reduceLT]
        rw [i64w (by omega) (by omega)]
        refine hK _ _ ?_; clear hK
        refine ⟨rfl, n - 1, by omega, v5, by omega, ?_, hg5, ?_⟩ -- ROUND
        · simp only [go_sem, Nat.reduceEqDiff, Nat.reduceLT, Nat.reduceAdd, Nat.reduceMul, Nat.reduceSub, Nat.add_zero, Nat.zero_add, Int.reduceEq, Int.reduceLT]
          rw [show ((i : Int) + 1) = ((vs.length - (n - 1) : Nat) : Int) by omega]
        · rw [show ls.length - (n - 1) = i + 1 by omega]; exact hown5
    · have hn0 : n = 0 := by have := of_decide_eq_false h23; omega
      subst hn0
      rw [Nat.sub_zero, List.take_length] at hob
      refine AWP.exit (Then.exit (Then.exit (InBlock.same ?_))) -- x0
      refine AWP.stepR [4, 5] fun K hK => ?_ -- r13
      simp only [go_sem, Nat.reduceEqDiff, Nat.reduceLT, Nat.reduceAdd, Nat.reduceMul, Nat.reduceSub, Nat.add_zero, Nat.zero_add, Int.reduceEq, Int.reduceLT]
      refine hK _ _ _ (by simp only [go_sem, Nat.reduceEqDiff, Nat.reduceLT, Nat.reduceAdd, Nat.reduceMul, Nat.reduceSub, Nat.add_zero, Nat.zero_add, Int.reduceEq, Int.reduceLT]; rfl) ?_; clear hK
      refine AWP.ret (?_)
      exact Fin.keep (v := .tuple #[b, .int .i64 0]) ⟨.inr rfl, rfl⟩ rfl ⟨hg0, b, by rw [putK, if_neg h64], by rw [putK, if_neg h64]; exact hob⟩
end Go.Proofs.YtopblipficpilaaGreatDoor.AY

/- Many that are in one: bulk.Get. -/
namespace Go.Proofs.YtopblipficpilaaGreatDoor.AY
open Go Go.Proofs
set_option maxRecDepth 100000
set_option linter.unusedVariables false
set_option linter.unusedSimpArgs false

theorem updM_eq {m : Mm} {i : Nat} {b : Blk} : updM m i b i = some b := by simp [updM]
/-- code with labels, none of which is jumped to -/
theorem AWP.scope1 {P : Program} {r : Option Nat} {k : Nat} {c : Code} {s : St} {Q : Exit → St → Prop} (h : AWP P r k c s (fun e s' => (∀ l, e ≠ .goto l) ∧ Q e s')) : AWP P r k (.scope c) s Q :=
  let ⟨e, s', hr, hn, hq⟩ := h
  ⟨e, s', ARun.scope (.out hr hn), hq⟩

/-- the head: how many, and what is wrong by then -/
def headS (b : List Int) : Rs :=
  let a := numS ⟨b, 0⟩ 1
  let c := numS a.1 1
  let s := if a.2 > 1 then failS c.1 4 else c.1
  if c.2 > 64 then failS s 16 else s
def onBt (b : List Int) : Int := (numS ⟨b, 0⟩ 1).2
def cntBt (b : List Int) : Int := (numS (numS ⟨b, 0⟩ 1).1 1).2
def itemsS (b : List Int) : Rs × List (List Int) := loopP textS (cntBt b).toNat (headS b)
/-- many that any bytes are, or what is wrong -/
def getK (b : List Int) : Bool × List (List Int) × Int :=
  if (endS (itemsS b).1).code ≠ 0 then (false, [], (endS (itemsS b).1).code) else (onBt b == 1, (itemsS b).2, 0)
theorem headS_b (b : List Int) : (headS b).b = (numS (numS ⟨b, 0⟩ 1).1 1).1.b := by
  unfold headS
  simp only
  split <;> split <;> simp only [failS_b]
theorem headS_bytes {b : List Int} (h : BytB b) : BytB (headS b).b := by rw [headS_b]; exact numS_bytes (numS_bytes (s := ⟨b, 0⟩) h 1) 1
theorem headS_len (b : List Int) : (headS b).b.length ≤ b.length := by rw [headS_b]; exact Nat.le_trans (numS_len _ _) (numS_len ⟨b, 0⟩ _)
/-- items that are held -/
def HI (lv : Value) (vs : List Value) (ls : List (List Int)) (r : Rw) : Prop := r = ⟨lv, vs.length, vs, 42⟩ ∨ ∃ (i : Nat) (x : Value) (y : List Int), vs[i]? = some x ∧ ls[i]? = some y ∧ r = ⟨x, y.length, cB y, 5⟩
theorem HI.add {lv v2 x : Value} {vs : List Value} {ls : List (List Int)} {y : List Int} (hl : vs.length = ls.length) {r : Rw} (h : HI v2 (vs ++ [x]) (ls ++ [y]) r) :
    r = ⟨v2, vs.length + 1, vs ++ [x], 42⟩ ∨ ((r = ⟨x, y.length, cB y, 5⟩ ∨ HI lv vs ls r) ∧ r ≠ ⟨lv, vs.length, vs, 42⟩) := by
  rcases h with rfl | ⟨i, a, b, h1, h2, rfl⟩
  · exact .inl (by simp)
  · refine .inr ⟨?_, fun h => ?_⟩
    · rw [List.getElem?_append] at h1 h2
      by_cases hi : i < vs.length
      · rw [if_pos hi] at h1
        rw [if_pos (by omega)] at h2
        exact .inr (.inr ⟨i, a, b, h1, h2, rfl⟩)
      · rw [if_neg hi] at h1
        rw [if_neg (by omega)] at h2
        have : i - vs.length = 0 := by
          rcases Nat.eq_zero_or_pos (i - vs.length) with h | h
          · exact h
          · rw [List.getElem?_eq_none (by simp; omega)] at h1; cases h1
        rw [this] at h1
        rw [show i - ls.length = 0 by omega] at h2
        simp at h1 h2
        subst h1 h2
        exact .inl rfl
    · injection h with _ _ _ he
      exact absurd he (by decide)

theorem get27_spec (v : Value) (b : List Int) (M : Mem) (hok : Ok M) (hv : RowB M v b) (hb : BytB b) (hl : b.length ≤ 1000000) :
    ∃ r M', ACall Tryz.prog 27 #[v] M r M' ∧ Grew M M' ∧ ∃ lv vs, r = .tuple #[.bool (getK b).1, lv, .int .i64 (getK b).2.2] ∧ Row_ M' lv vs.length vs ∧ Parts M' vs (getK b).2.1 := by
  refine ACall.fin (args := [v]) (k := 44) Tryz.func27 rfl rfl rfl (Nat.le_of_ble_eq_true rfl) ?_
  refine AWP.stepR [0] fun K hK => ?_ -- r0
  simp only [go_sem, Nat.reduceEqDiff, Nat.reduceLT, Nat.reduceAdd, Nat.reduceMul, Nat.reduceSub, Nat.add_zero, Nat.zero_add, Int.reduceEq, Int.reduceLT]
  refine hK _ _ _ (by simp only [go_sem, Nat.reduceEqDiff, Nat.reduceLT, Nat.reduceAdd, Nat.reduceMul, Nat.reduceSub, Nat.add_zero, Nat.zero_add, Int.reduceEq, Int.reduceLT]; rfl) ?_; clear hK
  refine AWP.scope1 ?_
  obtain ⟨r1, M1, hc1, hg1, p, rfl, hp, hs1⟩ := read58_spec v b M hok hv (by omega)
  have hlt1 := hs1.lt
  have hL1 : Lo M1.next M1 p _ ⟨b, 0⟩ (fun _ => none) (fun _ => False) := ⟨hg1.ok hok, Nat.le_refl _, hlt1, hs1, fun j hj => .inr hj, fun i b hi => (by cases hi), fun r hr => hr.elim, fun a b ha => ha.elim⟩
  refine AWP.stepR [5] fun K hK => ?_ -- r1
  simp only [go_sem, Nat.reduceEqDiff, Nat.reduceLT, Nat.reduceAdd, Nat.reduceMul, Nat.reduceSub, Nat.add_zero, Nat.zero_add, Int.reduceEq, Int.reduceLT]
  refine ⟨_, _, hc1, ?_⟩
  try simp only [go_sem, Nat.reduceEqDiff, Nat.reduceLT, Nat.reduceAdd, Nat.reduceMul, Nat.reduceSub, Nat.add_zero, Nat.zero_add, Int.reduceEq, Int.reduceLT]
  refine hK _ _ _ (by simp only [go_sem, Nat.reduceEqDiff, Nat.reduceLT, Nat.reduceAdd, Nat.reduceMul, Nat.reduceSub, Nat.add_zero, Nat.zero_add, Int.reduceEq, Int.reduceLT]; rfl) ?_; clear hK
  generalize (fun j => j ≤ M.next + 1 ∨ M1.next ≤ j) = D at hL1
  have hpM : M.next ≤ p := by omega
  clear hs1
  obtain ⟨r2, M2, hc2, hg2, hL2, rfl⟩ := hL1.num 1 (by simp only; omega) hb (by decide)
  have hb2 : BytB (numS ⟨b, 0⟩ 1).1.b := numS_bytes (s := ⟨b, 0⟩) hb 1
  have hl2 : (numS ⟨b, 0⟩ 1).1.b.length ≤ b.length := numS_len ⟨b, 0⟩ 1
  obtain ⟨r3, M3, hc3, hg3, hL3, rfl⟩ := hL2.num 1 (by omega) hb2 (by decide)
  have hon := numS_b1 (s := ⟨b, 0⟩) hb
  have hcn := numS_b1 hb2
  refine AWP.stepR [5, 6, 7] fun K hK => ?_ -- r2
  simp only [go_sem, Nat.reduceEqDiff, Nat.reduceLT, Nat.reduceAdd, Nat.reduceMul, Nat.reduceSub, Nat.add_zero, Nat.zero_add, Int.reduceEq, Int.reduceLT]
  refine ⟨_, _, hc2, ?_⟩
  try simp only [go_sem, Nat.reduceEqDiff, Nat.reduceLT, Nat.reduceAdd, Nat.reduceMul, Nat.reduceSub, Nat.add_zero, Nat.zero_add, Int.reduceEq, Int.reduceLT]
  refine ⟨_, _, hc3, ?_⟩
  try simp only [go_sem, Nat.reduceEqDiff, Nat.reduceLT, Nat.reduceAdd, Nat.reduceMul, Nat.reduceSub, Nat.add_zero, Nat.zero_add, Int.reduceEq, Int.reduceLT]
  refine hK _ _ _ (by simp only [go_sem, Nat.reduceEqDiff, Nat.reduceLT, Nat.reduceAdd, Nat.reduceMul, Nat.reduceSub, Nat.add_zero, Nat.zero_add, Int.reduceEq, Int.reduceLT]; rfl) ?_; clear hK
  have hgX3 : GrewX p M1 M3 := hg2.trans hg3
  refine AWP.seq ?_
  refine AWP.stepR [5, 6, 7, 17] fun K hK => ?_ -- r3
  simp only [go_sem, Nat.reduceEqDiff, Nat.reduceLT, Nat.reduceAdd, Nat.reduceMul, Nat.reduceSub, Nat.add_zero, Nat.zero_add, Int.reduceEq, Int.reduceLT]
  refine hK _ _ _ (by simp only [go_sem, Nat.reduceEqDiff, Nat.reduceLT, Nat.reduceAdd, Nat.reduceMul, Nat.reduceSub, Nat.add_zero, Nat.zero_add, Int.reduceEq, Int.reduceLT]; rfl) ?_; clear hK
  refine AWP.condG rfl [5, 6, 7] [(5, .pointer (some ⟨p, 0, none⟩)), (6, .int .u64 (onBt b)), (7, .int .u64 (cntBt b))] (fun M' => GrewX p M1 M' ∧ Lo M1.next M' p D (if onBt b > 1 then failS (numS (numS ⟨b, 0⟩ 1).1 1).1 4 else (numS (numS ⟨b, 0⟩ 1).1 1).1) (fun _ => none) (fun _ => False)) (fun h17 => ?_) (fun h17 => ?_) fun M4 h4 => ?_
  · obtain ⟨r4, M4, hc4, hg4, hL4⟩ := hL3.fail 4
    refine AWP.lastR fun K hK => ?_
    simp only [go_sem, Nat.reduceEqDiff, Nat.reduceLT, Nat.reduceAdd, Nat.reduceMul, Nat.reduceSub, Nat.add_zero, Nat.zero_add, Int.reduceEq, Int.reduceLT]
    refine ⟨_, _, hc4, ?_⟩
    try simp only [go_sem, Nat.reduceEqDiff, Nat.reduceLT, Nat.reduceAdd, Nat.reduceMul, Nat.reduceSub, Nat.add_zero, Nat.zero_add, Int.reduceEq, Int.reduceLT]
    refine hK _ _ ?_; clear hK
    refine ⟨by simp only [go_sem, Nat.reduceEqDiff, Nat.reduceLT, Nat.reduceAdd, Nat.reduceMul, Nat.reduceSub, Nat.add_zero, Nat.zero_add, Int.reduceEq, Int.reduceLT]; rfl, rfl, hgX3.trans hg4, ?_⟩
    rw [if_pos (show onBt b > 1 from of_decide_eq_true h17)]; exact hL4
  · refine AWP.skip ?_
    refine ⟨by simp only [go_sem, Nat.reduceEqDiff, Nat.reduceLT, Nat.reduceAdd, Nat.reduceMul, Nat.reduceSub, Nat.add_zero, Nat.zero_add, Int.reduceEq, Int.reduceLT]; rfl, rfl, hgX3, ?_⟩
    rw [if_neg (show ¬ onBt b > 1 from of_decide_eq_false h17)]; exact hL3
  obtain ⟨hgX4, hL4⟩ := h4
  refine AWP.seq ?_
  refine AWP.stepR [5, 6, 7, 21] fun K hK => ?_ -- r5
  simp only [go_sem, Nat.reduceEqDiff, Nat.reduceLT, Nat.reduceAdd, Nat.reduceMul, Nat.reduceSub, Nat.add_zero, Nat.zero_add, Int.reduceEq, Int.reduceLT]
  refine hK _ _ _ (by simp only [go_sem, Nat.reduceEqDiff, Nat.reduceLT, Nat.reduceAdd, Nat.reduceMul, Nat.reduceSub, Nat.add_zero, Nat.zero_add, Int.reduceEq, Int.reduceLT]; rfl) ?_; clear hK
  refine AWP.condG rfl [5, 6, 7] [(5, .pointer (some ⟨p, 0, none⟩)), (6, .int .u64 (onBt b)), (7, .int .u64 (cntBt b))] (fun M' => GrewX p M1 M' ∧ Lo M1.next M' p D (headS b) (fun _ => none) (fun _ => False)) (fun h21 => ?_) (fun h21 => ?_) fun M5 h5 => ?_
  · obtain ⟨r5, M5, hc5, hg5, hL5⟩ := hL4.fail 16
    refine AWP.lastR fun K hK => ?_
    simp only [go_sem, Nat.reduceEqDiff, Nat.reduceLT, Nat.reduceAdd, Nat.reduceMul, Nat.reduceSub, Nat.add_zero, Nat.zero_add, Int.reduceEq, Int.reduceLT]
    refine ⟨_, _, hc5, ?_⟩
    try simp only [go_sem, Nat.reduceEqDiff, Nat.reduceLT, Nat.reduceAdd, Nat.reduceMul, Nat.reduceSub, Nat.add_zero, Nat.zero_add, Int.reduceEq, Int.reduceLT]
    refine hK _ _ ?_; clear hK
    refine ⟨by simp only [go_sem, Nat.reduceEqDiff, Nat.reduceLT, Nat.reduceAdd, Nat.reduceMul, Nat.reduceSub, Nat.add_zero, Nat.zero_add, Int.reduceEq, Int.reduceLT], rfl, hgX4.trans hg5, ?_⟩
    have h : cntBt b > 64 := of_decide_eq_true h21
    have e : headS b = failS (if onBt b > 1 then failS (numS (numS ⟨b, 0⟩ 1).1 1).1 4 else (numS (numS ⟨b, 0⟩ 1).1 1).1) 16 := if_pos h
    rw [e]; exact hL5
  · refine AWP.skip ?_
    refine ⟨by simp only [go_sem, Nat.reduceEqDiff, Nat.reduceLT, Nat.reduceAdd, Nat.reduceMul, Nat.reduceSub, Nat.add_zero, Nat.zero_add, Int.reduceEq, Int.reduceLT], rfl, hgX4, ?_⟩
    have h : ¬ cntBt b > 64 := of_decide_eq_false h21
    have e : headS b = (if onBt b > 1 then failS (numS (numS ⟨b, 0⟩ 1).1 1).1 4 else (numS (numS ⟨b, 0⟩ 1).1 1).1) := if_neg h
    rw [e]; exact hL4
  obtain ⟨hgX5, hL5⟩ := h5
  have hbh := headS_bytes hb
  have hlh := headS_len b
  have hcn : 0 ≤ cntBt b ∧ cntBt b < 256 := hcn
  have hN0 := hL1.pN
  refine AWP.stepR [5, 6, 7, 8] fun K hK => ?_ -- r7
  simp only [go_sem, Nat.reduceEqDiff, Nat.reduceLT, Nat.reduceAdd, Nat.reduceMul, Nat.reduceSub, Nat.add_zero, Nat.zero_add, Int.reduceEq, Int.reduceLT]
  refine hK _ _ _ (by simp only [go_sem, Nat.reduceEqDiff, Nat.reduceLT, Nat.reduceAdd, Nat.reduceMul, Nat.reduceSub, Nat.add_zero, Nat.zero_add, Int.reduceEq, Int.reduceLT]; rfl) ?_; clear hK
  refine AWP.seq ?_
  refine AWP.label ?_
  obtain ⟨cnt, hcnt⟩ : ∃ c : Nat, cntBt b = c := ⟨(cntBt b).toNat, by omega⟩
  have hit : itemsS b = loopP textS cnt (headS b) := by rw [itemsS, hcnt]; rfl
  rw [hcnt] at hcn ⊢
  refine AWP.seq ?_
  refine AWP.seqE (α := Value) [5, 6, 8] (fun lv => [(5, .pointer (some ⟨p, 0, none⟩)), (6, .int .u64 (onBt b)), (8, lv)]) (fun lv M' => GrewX p M1 M' ∧ ∃ vs : List Value, vs.length = (itemsS b).2.length ∧ Lo M1.next M' p D (itemsS b).1 (fun _ => none) (HI lv vs (itemsS b).2) ∧ (itemsS b).1.b.length ≤ 1000000) ?_ fun lv M6 h6 => ?_
  · refine AWP.stepR [5, 6, 8, 24, 25] fun K hK => ?_ -- r8
    simp only [go_sem, Nat.reduceEqDiff, Nat.reduceLT, Nat.reduceAdd, Nat.reduceMul, Nat.reduceSub, Nat.add_zero, Nat.zero_add, Int.reduceEq, Int.reduceLT]
    refine hK _ _ _ (by simp only [go_sem, Nat.reduceEqDiff, Nat.reduceLT, Nat.reduceAdd, Nat.reduceMul, Nat.reduceSub, Nat.add_zero, Nat.zero_add, Int.reduceEq, Int.reduceLT]; rfl) ?_; clear hK
    refine AWP.block ?_ -- b0
    refine AWP.loopK [5, 6, 8, 24, 25] (fun c e M3 => c ≤ cnt ∧ GrewX p M1 M3 ∧ ∃ (s : Rs) (vs : List Value) (ls : List (List Int)) (lv : Value), vs.length = ls.length ∧ ls.length ≤ cnt - c ∧ Lo M1.next M3 p D s (fun _ => none) (HI lv vs ls) ∧ BytB s.b ∧ s.b.length ≤ 1000000 ∧ loopP textS cnt (headS b) = ((loopP textS c s).1, ls ++ (loopP textS c s).2) ∧ e = [(5, .pointer (some ⟨p, 0, none⟩)), (6, .int .u64 (onBt b)), (8, lv), (24, .int .u64 (cnt : Int)), (25, .int .u64 ((cnt - c : Nat) : Int))]) cnt ?_ fun c e M3 hI => ?_
    · refine ⟨Nat.le_refl _, hgX5, headS b, [], [], .slice none 0 0, rfl, Nat.zero_le _, ?_, hbh, by omega, by simp, by simp only [go_sem, Nat.reduceEqDiff, Nat.reduceLT, Nat.reduceAdd, Nat.reduceMul, Nat.reduceSub, Nat.add_zero, Nat.zero_add, Int.reduceEq, Int.reduceLT, Nat.sub_self]; rfl⟩
      have h3 := hL5.add (Mb := M5) (r := ⟨.slice none 0 0, 0, [], 42⟩) (Own.nil _ _ _) hL5.next (fun i b hi => Apart.nil _) (fun a ha => Sep.nil _)
      refine h3.less (fun i b hi => hi) fun r hr => ?_
      rcases hr with rfl | ⟨i, x, y, h, _⟩
      · exact .inl rfl
      · cases h
    obtain ⟨hcc, hgX, s, vs, ls, lv, hvl, hlc, hL, hbs, hls, hlp, rfl⟩ := hI
    refine AWP.stepR [5, 6, 8, 24, 25, 26] fun K hK => ?_ -- r9
    simp only [go_sem, Nat.reduceEqDiff, Nat.reduceLT, Nat.reduceAdd, Nat.reduceMul, Nat.reduceSub, Nat.add_zero, Nat.zero_add, Int.reduceEq, Int.reduceLT]
    refine hK _ _ _ (by simp only [go_sem, Nat.reduceEqDiff, Nat.reduceLT, Nat.reduceAdd, Nat.reduceMul, Nat.reduceSub, Nat.add_zero, Nat.zero_add, Int.reduceEq, Int.reduceLT]; rfl) ?_; clear hK
    refine AWP.condS rfl (fun h26 => ?_) fun h26 => ?_
    · have hc0 : 0 < c := by have : ((cnt - c : Nat) : Int) < cnt := of_decide_eq_true h26; omega
      refine AWP.skip ?_
      refine AWP.seq ?_
      refine AWP.block ?_ -- b1
      obtain ⟨r9, M9, hc9, hr9, hM9⟩ := code61_spec p D s M3 hL.ok hL.rd
      rw [hr9, hM9] at hc9
      refine AWP.seq ?_
      refine AWP.stepR [5, 6, 8, 24, 25, 29] fun K hK => ?_ -- r10
      simp only [go_sem, Nat.reduceEqDiff, Nat.reduceLT, Nat.reduceAdd, Nat.reduceMul, Nat.reduceSub, Nat.add_zero, Nat.zero_add, Int.reduceEq, Int.reduceLT]
      refine ⟨_, _, hc9, ?_⟩
      try simp only [go_sem, Nat.reduceEqDiff, Nat.reduceLT, Nat.reduceAdd, Nat.reduceMul, Nat.reduceSub, Nat.add_zero, Nat.zero_add, Int.reduceEq, Int.reduceLT]
      refine hK _ _ _ (by simp only [go_sem, Nat.reduceEqDiff, Nat.reduceLT, Nat.reduceAdd, Nat.reduceMul, Nat.reduceSub, Nat.add_zero, Nat.zero_add, Int.reduceEq, Int.reduceLT]; rfl) ?_; clear hK
      refine AWP.cond_split rfl (fun h29 => ?_) fun h29 => ?_
      · have hcode : s.code ≠ 0 := by simpa using h29
        rw [loopP_stop textS (.inr hcode)] at hlp
        simp only [List.append_nil] at hlp
        refine AWP.exit ?_
        show ∃ v, _
        refine ⟨lv, by simp only [go_sem, Nat.reduceEqDiff, Nat.reduceLT, Nat.reduceAdd, Nat.reduceMul, Nat.reduceSub, Nat.add_zero, Nat.zero_add, Int.reduceEq, Int.reduceLT], rfl, hgX, vs, ?_, ?_, ?_⟩
        · rw [hit, hlp]; exact hvl
        · rw [hit, hlp]; exact hL
        · rw [hit, hlp]; exact hls
      · have hcode : s.code = 0 := by simpa using h29
        obtain ⟨rb, Mk, hck, hgk, hok', hLk⟩ := (hL.grow ((Grew.refl M3).bump 1)).text hls hbs
        obtain ⟨hltk, hLx⟩ := hL.box hgk hLk (fun r hr => hr.elim (fun h => .inr (h ▸ hok'.apart (.inl (by rw [Mem.next_bump]; omega)))) .inl) ⟨[rb], 42, true⟩
        have hN := hL.next
        have hgXk : GrewX p M1 Mk := hgX.trans ((((Grew.refl M3).bump 1).x p).trans hgk)
        have hgXx : GrewX p M1 (Mk.put M3.next ⟨[rb], 42, true⟩) := ⟨fun i hi hip => by rw [Mem.get_put, if_neg (by omega)]; exact hgXk.keep i hi hip, by rw [Mem.next_put]; exact hgXk.next, fun _ => hLx.ok⟩
        have hrb := hok'.row.one
        generalize hX : Mk.put M3.next ⟨[rb], 42, true⟩ = X at hLx hgXx
        have hx := (hLx.fx M3.next _ updM_eq).1
        obtain ⟨v2, X3, happ, hnx3, hkeep, _, hL3⟩ := hLx.append ap_59_59 (v := lv) (n := vs.length) (cells := vs) (.inr (.inl rfl)) (by simp) (hx.content 1 1 1 rfl) (by simp [oneCells, hrb]) (by omega)
        have hgX3 : GrewX p M1 X3 := ⟨fun i hi hip => (hkeep i (by omega)).trans (hgXx.keep i hi hip), Nat.le_trans hgXx.next hnx3, fun _ => hL3.ok⟩
        refine AWP.skip ?_
        refine AWP.lastR fun K hK => ?_ -- r11
        simp only [go_sem, Nat.reduceEqDiff, Nat.reduceLT, Nat.reduceAdd, Nat.reduceMul, Nat.reduceSub, Nat.add_zero, Nat.zero_add, Int.reduceEq, Int.reduceLT]
        refine ⟨_, _, hck, ?_⟩
        simp only [go_sem, Nat.reduceEqDiff, Nat.reduceLT, Nat.reduceAdd, Nat.reduceMul, Nat.reduceSub, Nat.add_zero, Nat.zero_add, Int.reduceEq, Int.reduceLT, hrb, cond_true, hX, happ]
        refine hK _ _ ?_; clear hK
        refine AWP.lastR fun K hK => ?_ -- r12
        simp only [go_sem, Nat.reduceEqDiff, Nat.reduceLT, Nat.reduceAdd, Nat.reduceMul, Nat.reduceSub, Nat.add_zero, Nat.zero_add, Int.reduceEq, Int.reduceLT]
        refine hK _ _ ?_; clear hK
        rw [loopP_step textS hc0 hcode] at hlp
        have htb := textS_bytes hbs
        have htl := textS_len s
        refine ⟨rfl, c - 1, by omega, by omega, hgX3, (textS s).1, vs ++ [rb], ls ++ [(textS s).2], v2, by simp [hvl], by simp; omega, hL3.less (fun i b hi => (by cases hi)) (fun r hr => (HI.add hvl hr).imp id fun h => h), htb.1, by omega, ?_, ?_⟩ -- ROUND
        · rw [hlp]; simp
        · simp only [go_sem, Nat.reduceEqDiff, Nat.reduceLT, Nat.reduceAdd, Nat.reduceMul, Nat.reduceSub, Nat.add_zero, Nat.zero_add, Int.reduceEq, Int.reduceLT]
          rw [u64w (by omega) (by omega), show ((cnt - c : Nat) : Int) + 1 = ((cnt - (c - 1) : Nat) : Int) by omega]
    · have hc0 : c = 0 := by have : ¬ ((cnt - c : Nat) : Int) < cnt := of_decide_eq_false h26; omega
      subst hc0
      rw [loopP_stop textS (.inl rfl), List.append_nil] at hlp
      refine AWP.exit ?_
      show ∃ v, _
      refine ⟨lv, by simp only [go_sem, Nat.reduceEqDiff, Nat.reduceLT, Nat.reduceAdd, Nat.reduceMul, Nat.reduceSub, Nat.add_zero, Nat.zero_add, Int.reduceEq, Int.reduceLT], rfl, hgX, vs, ?_, ?_, ?_⟩
      · rw [hit, hlp]; exact hvl
      · rw [hit, hlp]; exact hL
      · rw [hit, hlp]; exact hls
  obtain ⟨hgX6, vs, hvl, hL6, hl6⟩ := h6
  obtain ⟨r7, M7, hc7, hg7, rfl, hL7⟩ := hL6.end_ hl6
  have hgM7 : Grew M M7 := GrewX.grew hg1 (hgX6.trans hg7) hpM
  refine AWP.seq ?_
  refine AWP.stepR [6, 8, 9] fun K hK => ?_ -- r13
  simp only [go_sem, Nat.reduceEqDiff, Nat.reduceLT, Nat.reduceAdd, Nat.reduceMul, Nat.reduceSub, Nat.add_zero, Nat.zero_add, Int.reduceEq, Int.reduceLT]
  refine ⟨_, _, hc7, ?_⟩
  try simp only [go_sem, Nat.reduceEqDiff, Nat.reduceLT, Nat.reduceAdd, Nat.reduceMul, Nat.reduceSub, Nat.add_zero, Nat.zero_add, Int.reduceEq, Int.reduceLT]
  refine hK _ _ _ (by simp only [go_sem, Nat.reduceEqDiff, Nat.reduceLT, Nat.reduceAdd, Nat.reduceMul, Nat.reduceSub, Nat.add_zero, Nat.zero_add, Int.reduceEq, Int.reduceLT]; rfl) ?_; clear hK
  refine AWP.stepR [6, 8, 9, 39] fun K hK => ?_ -- r14
  simp only [go_sem, Nat.reduceEqDiff, Nat.reduceLT, Nat.reduceAdd, Nat.reduceMul, Nat.reduceSub, Nat.add_zero, Nat.zero_add, Int.reduceEq, Int.reduceLT]
  refine hK _ _ _ (by simp only [go_sem, Nat.reduceEqDiff, Nat.reduceLT, Nat.reduceAdd, Nat.reduceMul, Nat.reduceSub, Nat.add_zero, Nat.zero_add, Int.reduceEq, Int.reduceLT]; rfl) ?_; clear hK
  refine AWP.cond_split rfl (fun h39 => ?_) fun h39 => ?_
  · have he : (endS (itemsS b).1).code ≠ 0 := by simpa using h39
    refine AWP.stepR [2, 3, 4] fun K hK => ?_ -- r15
    simp only [go_sem, Nat.reduceEqDiff, Nat.reduceLT, Nat.reduceAdd, Nat.reduceMul, Nat.reduceSub, Nat.add_zero, Nat.zero_add, Int.reduceEq, Int.reduceLT]
    refine hK _ _ _ (by simp only [go_sem, Nat.reduceEqDiff, Nat.reduceLT, Nat.reduceAdd, Nat.reduceMul, Nat.reduceSub, Nat.add_zero, Nat.zero_add, Int.reduceEq, Int.reduceLT]; rfl) ?_; clear hK
    refine AWP.ret ?_
    show _ ∧ _
    refine ⟨fun l h => (by cases h), ?_⟩
    refine Fin.keep (v := .tuple #[.bool false, .slice none 0 0, .int .i64 (endS (itemsS b).1).code]) ⟨.inr rfl, rfl⟩ rfl ⟨hgM7, .slice none 0 0, [], ?_, Row_.nil _, ?_⟩
    · rw [getK, if_pos he]
    · rw [getK, if_pos he]; exact Parts.nil _
  · have he : ¬ (endS (itemsS b).1).code ≠ 0 := by simpa using h39
    refine AWP.skip ?_
    refine AWP.stepR [2, 3, 4] fun K hK => ?_ -- r16
    simp only [go_sem, Nat.reduceEqDiff, Nat.reduceLT, Nat.reduceAdd, Nat.reduceMul, Nat.reduceSub, Nat.add_zero, Nat.zero_add, Int.reduceEq, Int.reduceLT]
    refine hK _ _ _ (by simp only [go_sem, Nat.reduceEqDiff, Nat.reduceLT, Nat.reduceAdd, Nat.reduceMul, Nat.reduceSub, Nat.add_zero, Nat.zero_add, Int.reduceEq, Int.reduceLT]; rfl) ?_; clear hK
    refine AWP.ret ?_
    show _ ∧ _
    refine ⟨fun l h => (by cases h), ?_⟩
    refine Fin.keep (v := .tuple #[.bool (onBt b == 1), lv, .int .i64 0]) ⟨.inr rfl, rfl⟩ rfl ⟨hgM7, lv, vs, ?_, (hL7.rows _ (.inl rfl)).row, ?_⟩
    · rw [getK, if_neg he]
    · rw [getK, if_neg he]
      exact ⟨hvl, fun i x y hx hy => (hL7.rows _ (.inr ⟨i, x, y, hx, hy, rfl⟩)).row⟩
end Go.Proofs.YtopblipficpilaaGreatDoor.AY
