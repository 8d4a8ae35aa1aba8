/- The layer: bytes.Index, by the shelf's contract; what is handed in for it: a block that tells of the package's variable it reads. -/
import Derived.Test.YtopblipficpilaaGreatDoorBulkPuts17
import Derived.Shelf.Bytes.SlIndexWhole
namespace Go.Proofs.YtopblipficpilaaGreatDoor
open Go Go.Shelf Go.Proofs
def Tryz.lays185_ren : Go.Shelf.Ren := ⟨fun | 185 => 333 | 187 => 410 | 115 => 405 | 253 => 411 | 224 => 412 | 254 => 413 | 255 => 482 | 291 => 483 | n => n, fun | 37 => 42 | 3 => 3 | 4 => 4 | 0 => 0 | 5 => 5 | 46 => 332 | 9 => 9 | 146 => 634 | 51 => 50 | n => n, fun | 1 => 0 | n => n⟩
theorem Tryz.lays185 : Go.Proofs.Lays.n185 Tryz.prog Tryz.lays185_ren where
  mixed := by kernel_rfl
  f115 := Tryz.func405.trans (congrArg some (by kernel_rfl))
  f185 := Tryz.func333.trans (congrArg some (by kernel_rfl))
  f187 := Tryz.func410.trans (congrArg some (by kernel_rfl))
  f224 := Tryz.func412.trans (congrArg some (by kernel_rfl))
  f253 := Tryz.func411.trans (congrArg some (by kernel_rfl))
  f254 := Tryz.func413.trans (congrArg some (by kernel_rfl))
  f255 := Tryz.func482.trans (congrArg some (by kernel_rfl))
  f291 := Tryz.func483.trans (congrArg some (by kernel_rfl))
  t0 := Tryz.underlying0
  a0 := Tryz.isAgg0
  z0 := Tryz.sizeOf0
  v0 := Tryz.zeroValue0
  t3 := Tryz.underlying3
  a3 := Tryz.isAgg3
  z3 := Tryz.sizeOf3
  v3 := Tryz.zeroValue3
  t4 := Tryz.underlying4
  a4 := Tryz.isAgg4
  z4 := Tryz.sizeOf4
  v4 := Tryz.zeroValue4
  t5 := Tryz.underlying5
  a5 := Tryz.isAgg5
  z5 := Tryz.sizeOf5
  v5 := Tryz.zeroValue5
  t9 := Tryz.underlying9
  a9 := Tryz.isAgg9
  z9 := Tryz.sizeOf9
  v9 := Tryz.zeroValue9
  t37 := Tryz.underlying42
  a37 := Tryz.isAgg42
  z37 := Tryz.sizeOf42
  v37 := Tryz.zeroValue42
  t46 := Tryz.underlying332
  a46 := Tryz.isAgg332
  z46 := Tryz.sizeOf332
  v46 := Tryz.zeroValue332
  t51 := Tryz.underlying50
  a51 := Tryz.isAgg50
  z51 := Tryz.sizeOf50
  v51 := Tryz.zeroValue50
  t146 := Tryz.underlying634
  a146 := Tryz.isAgg634
  z146 := Tryz.sizeOf634
  v146 := Tryz.zeroValue634
  g1 := by kernel_rfl
end Go.Proofs.YtopblipficpilaaGreatDoor
namespace Go.Proofs.YtopblipficpilaaGreatDoor.AY
open Go Go.Proofs
set_option maxRecDepth 100000
set_option linter.unusedVariables false
set_option linter.unusedSimpArgs false

/-- internal/bytealg.MaxLen's number -/
def maxLenG : Nat := 0
theorem lays_f : Tryz.lays185_ren.f 185 = 333 := by kernel_rfl
theorem lays_g : Tryz.lays185_ren.g 1 = maxLenG := by kernel_rfl
/-- memory tells of internal/bytealg.MaxLen -/
def hasG (M : Mem) : Bool := match M.get 0 with
  | some b => Nat.beq b.elem (globTag + maxLenG)
  | none => false
def smallB (l : List Int) : Bool := l.all fun x => decide (0 ≤ x) && decide (x < 256)
def idxV (M : Mem) (vs : List Value) : Option (Value × Mem) := match vs with
  | [v, u] => bif hasG M then match v, u, bytesV M v, bytesV M u with
    | .slice (some _) n _, .slice (some _) k _, some l, some m => bif smallB l && smallB m && Nat.ble n 65536 && Nat.ble k 65536 && Nat.beq l.length n && Nat.beq m.length k then some (.int .i64 (Go.Lib.index (Go.Lib.bytesOf l) (Go.Lib.bytesOf m)), M) else none
    | _, _, _, _ => none
    else none
  | _ => none
theorem row_cells {P : Program} {ρ : Emb} {m : Mm} {w : World} {a : Option Addr} {n c : Nat} {v' : Value} {l : List Int} (hn : l.length = n) (h : contentV m 1 (.slice a n c) = some (l.length, cU l)) (ha : a ≠ none) (hv : VR P ρ (.slice a n c) v') (hr : HR P ρ m w) :
    ∃ a' c', v' = .slice (some a') n c' ∧ n ≤ c' ∧ ∀ i, i < n → w.cell? (a'.add i) = some (.int .u8 (l.getD i 0)) := by
  cases hv with
  | nils => exact absurd rfl ha
  | slice hf hn' hc hp hroom hsp =>
    rename_i c' p sp f
    refine ⟨_, _, rfl, hn', fun i hi => ?_⟩
    simp only [contentV] at h
    have h0 : n ≠ 0 := by omega
    simp only [h0, if_false] at h
    split at h
    · rename_i blk hb
      split at h
      · rename_i hle
        simp only [Option.some.injEq, Prod.mk.injEq] at h
        obtain ⟨_, hcells⟩ := h
        obtain rfl := hsp (by omega)
        have hpe := hp (.inl (by omega))
        subst hpe
        obtain ⟨hb1, hob⟩ := rowsOf_some hb
        obtain ⟨f', hf', hone⟩ := hr.one _ blk hb1
        rw [hf] at hf'; cases hf'
        obtain ⟨vs, hl, hvl, hcell⟩ := hone.range hob hle
        rw [hcells] at hvl
        have hvs := hvl.ints
        subst hvs
        refine hcell i _ ?_
        have hi' : i < l.length := by omega
        simp [List.getD, hi']
      · cases h
    · cases h
theorem smallB_of {l : List Int} (h : smallB l = true) : ∀ x ∈ l, 0 ≤ x ∧ x < 256 := fun x hx => by
  have := List.all_eq_true.1 h x hx
  simpa using this
theorem idx_ok {l : List Value} {M M' : Mem} {v : Value} (h : idxV M l = some (v, M')) : ACall Tryz.prog 333 l.toArray M v M' := by
  unfold idxV at h
  split at h
  · rename_i x y
    cases hg : hasG M with
    | false => simp [hg] at h
    | true =>
      simp only [hg, cond_true] at h
      split at h
      · rename_i a1 n c1 a2 k c2 xs ys h1 h2
        cases hc : (smallB xs && smallB ys && Nat.ble n 65536 && Nat.ble k 65536 && Nat.beq xs.length n && Nat.beq ys.length k) with
        | false => simp [hc] at h
        | true =>
          simp only [hc, cond_true, Option.some.injEq, Prod.mk.injEq] at h
          obtain ⟨rfl, rfl⟩ := h
          simp only [Bool.and_eq_true] at hc
          obtain ⟨⟨⟨⟨⟨g1, g2⟩, g3⟩, g4⟩, g5⟩, g6⟩ := hc
          have g5 : xs.length = n := Nat.eq_of_beq_eq_true g5
          have g6 : ys.length = k := Nat.eq_of_beq_eq_true g6
          have g3 := Nat.le_of_ble_eq_true g3
          have g4 := Nat.le_of_ble_eq_true g4
          intro ρ w args' ha hr hf
          obtain ⟨v', u', rfl, hv, hu⟩ : ∃ v' u', args' = #[v', u'] ∧ VR Tryz.prog ρ (.slice (some a1) n c1) v' ∧ VR Tryz.prog ρ (.slice (some a2) k c2) u' := by
            obtain ⟨hs, hat⟩ := ha
            match args', hs with
            | ⟨[v', u']⟩, _ => exact ⟨v', u', rfl, hat 0 _ v' rfl rfl, hat 1 _ u' rfl rfl⟩
          obtain ⟨b1, d1, rfl, e1, e2⟩ := row_cells g5 (bytesV_ok h1).1 (by simp) hv hr
          obtain ⟨b2, d2, rfl, e3, e4⟩ := row_cells g6 (bytesV_ok h2).1 (by simp) hu hr
          have hm : ∃ m, w.cell? ⟨Tryz.lays185_ren.g 1, 0, none⟩ = some (.int .i64 m) := by
            unfold hasG at hg
            split at hg
            · rename_i b hb
              have he : b.elem = globTag + maxLenG := Nat.eq_of_beq_eq_true hg
              obtain ⟨f, hf1, hone⟩ := hr.one 0 b hb
              have hgl := hone.glob _ he
              rcases hone.row with ⟨ho, _⟩ | ⟨_, _, o, ho, hobj⟩
              · rw [he] at ho; exact absurd ho (by decide)
              · rw [he] at hobj
                rw [lays_g]
                generalize hq : globTag + maxLenG = q at hobj
                generalize b.cells = cc at hobj
                cases hobj with
                | map _ => exact absurd hq (by decide)
                | iter _ => exact absurd hq (by decide)
                | glob hcs =>
                  rename_i g n cs el fz
                  refine ⟨n, ?_⟩
                  rw [hgl] at ho
                  simp only [World.cell?, ho]
                  simpa using hcs
            · cases hg
          obtain ⟨m, hm⟩ := hm
          have := Any.bytes_Index_at Tryz.lays185 b1 b2 n d1 k d2 xs ys m w g5 g6 (smallB_of g1) (smallB_of g2) e2 e4 e1 (by omega) (by omega) hm
          rw [lays_f] at this
          refine this.mono ?_
          rintro e w' ⟨rfl, q, rfl⟩
          refine ⟨_, ρ, rfl, .int _ _, ?_, hf, ?_⟩
          · exact ⟨fun i b hi => let ⟨f, hf, ho⟩ := hr.one i b hi; ⟨f, hf, ho.mono (Sub.refl _) rfl⟩, hr.apart⟩
          · exact ⟨⟨Sub.refl ρ, Nat.le_refl _, fun _ _ _ => rfl, fun i g hi hg => (by rw [hi] at hg; cases hg), fun i b' hi => .inl ⟨b', hi, fun h => h⟩, ⟨rfl, rfl, rfl⟩⟩, fun _ _ h => h, Nat.le_refl _⟩
      · cases h
  · cases h
end Go.Proofs.YtopblipficpilaaGreatDoor.AY

/- The layer: closed runs, and what they serve for. -/
namespace Go.Proofs.YtopblipficpilaaGreatDoor.AY
open Go Go.Proofs
set_option maxRecDepth 100000
set_option linter.unusedVariables false
set_option linter.unusedSimpArgs false

/-- a run from no memory that hands back a pointer serves from any: nothing is told of what it leads to -/
theorem ACall.fresh {P : Program} {f : FuncId} {i o : Nat} {M' : Mem} (h : ACall P f #[] ⟨0, .nil⟩ (.pointer (some ⟨i, o, none⟩)) M') (M : Mem) : ACall P f #[] M (.pointer (some ⟨M.next, o, none⟩)) (M.bump 1) := by
  intro ρ w args' ha hr hf
  have hempty : HR P (fun _ => none) (Mem.get ⟨0, .nil⟩) w := ⟨fun i b hi => (by cases hi), fun i j bi bj fi fj _ hi => (by cases hi)⟩
  refine (h (fun _ => none) w args' ⟨ha.1, fun i v v' hv => by simp at hv⟩ hempty (fun _ _ => rfl)).mono ?_
  rintro e w' ⟨r', ρ', rfl, h1, h2, h3, h4⟩
  have hheap : ∀ B, B < w.heap.size → w'.heap[B]? = w.heap[B]? := fun B hB => h4.ext.heap B hB fun ⟨i, b, g, hi, _⟩ => by cases hi
  cases h1 with
  | ptr hfi =>
    rename_i g
    have hnew : w.heap.size ≤ g.blk := by
      rcases h4.ext.new i g rfl hfi with h | ⟨j, b, g', hj, _⟩
      · exact h
      · cases hj
    have hno : ρ M.next = none := hf _ (Nat.le_refl _)
    have hsub : Sub ρ (updE ρ M.next g) := fun j q hj => by
      unfold updE
      by_cases hjn : j = M.next
      · subst hjn; rw [hno] at hj; cases hj
      · simp [hjn, hj]
    refine ⟨_, updE ρ M.next g, rfl, .ptr (by simp [updE]), ⟨fun j b hj => ?_, fun j k bj bk fj fk hjk hj hk hrw hfj hfk => ?_⟩, fun j hj => ?_, ⟨⟨hsub, h4.ext.size, fun B hB _ => hheap B hB, fun j q hj hq => ?_, fun j b' hj => .inl ⟨b', hj, fun h => h⟩, h4.ext.io⟩, fun j hj hn => ?_, by show M.next ≤ M.next + 1; omega⟩⟩
    · obtain ⟨q, hq, ho⟩ := hr.one j b hj
      exact ⟨q, hsub _ _ hq, ho.mono hsub (hheap q.blk ho.lt)⟩
    · obtain ⟨q, hq, _⟩ := hr.one j bj hj
      obtain ⟨q', hq', _⟩ := hr.one k bk hk
      have e1 := hsub _ _ hq
      have e2 := hsub _ _ hq'
      rw [hfj] at e1; cases e1
      rw [hfk] at e2; cases e2
      exact hr.apart j k bj bk fj fk hjk hj hk hrw hq hq'
    · have hj : M.next + 1 ≤ j := hj
      unfold updE
      have : j ≠ M.next := by omega
      simp [this, hf j (by omega)]
    · unfold updE at hq
      by_cases hjn : j = M.next
      · subst hjn; simp at hq; subst hq; exact .inl hnew
      · simp [hjn, hj] at hq
    · unfold updE
      have : j ≠ M.next := by omega
      simp [this, hn]

/-- memory that tells of a package's variable alone -/
noncomputable def memG (g : Nat) : Mem := mPut ⟨1, .nil⟩ 0 ⟨[], globTag + g, false⟩
theorem memG_get (g i : Nat) : (memG g).get i = if i = 0 then some ⟨[], globTag + g, false⟩ else none := by
  unfold memG
  rw [mPut_eq, Mem.get_put]
  by_cases hi : i = 0
  · simp [hi]
  · simp only [hi, if_false]; rfl
/-- a run from there serves wherever memory tells of it, if its value names no block -/
theorem ACall.closedG {P : Program} {f : FuncId} {r : Value} {M' : Mem} {g : Nat} (h : ACall P f #[] (memG g) r M') (hp : plain r = true) (M : Mem) {j : Nat} (hj : M.get j = some ⟨[], globTag + g, false⟩) : ACall P f #[] M r M := by
  intro ρ w args' ha hr hf
  obtain ⟨q, hq, hone⟩ := hr.one j _ hj
  let ρ₀ : Emb := fun i => if i = 0 then some q else none
  have hsub0 : ∀ i b, (memG g).get i = some b → i = 0 ∧ b = ⟨[], globTag + g, false⟩ := by
    intro i b hi
    rw [memG_get] at hi
    by_cases h0 : i = 0
    · simp [h0] at hi; exact ⟨h0, hi.symm⟩
    · simp [h0] at hi
  have hone0 : One P ρ₀ w q ⟨[], globTag + g, false⟩ := by
    refine ⟨hone.elem, ?_, hone.glob⟩
    rcases hone.row with ⟨ho, _⟩ | ⟨h1, h2, o, h3, h4⟩
    · exact absurd (Nat.ble_eq_true_of_le (show mapTag ≤ globTag + g from Nat.le_trans (by decide) (Nat.le_add_right _ _))) (by rw [show Nat.ble mapTag (globTag + g) = false from ho]; decide)
    · refine .inr ⟨h1, h2, o, h3, ?_⟩
      show ObjR P ρ₀ [] (globTag + g) o
      have h4 : ObjR P ρ [] (globTag + g) o := h4
      generalize hcc : globTag + g = t at h4 ⊢
      cases h4 with
      | glob hcs => rw [← hcc] at *; exact .glob hcs
  have hrun : HR P ρ₀ (memG g).get w := ⟨fun i b hi => by
      obtain ⟨rfl, rfl⟩ := hsub0 i b hi
      exact ⟨q, by simp [ρ₀], hone0⟩, fun i k bi bk fi fk hik hi hk => absurd ((hsub0 i bi hi).1.trans (hsub0 k bk hk).1.symm) hik⟩
  refine (h ρ₀ w args' ⟨ha.1, fun i v v' hv => by simp at hv⟩ hrun (fun i hi => by
    have : (memG g).next = 1 := by unfold memG; rw [mPut_eq, Mem.next_put]
    rw [this] at hi
    have : i ≠ 0 := by omega
    simp [ρ₀, this])).mono ?_
  rintro e w' ⟨r', ρ', rfl, h1, h2, h3, h4⟩
  have hheap : ∀ B, B < w.heap.size → w'.heap[B]? = w.heap[B]? := fun B hB => h4.ext.heap B hB fun ⟨i, b, g', hi, hrw, _⟩ => by
    obtain ⟨_, rfl⟩ := hsub0 i b hi
    cases hrw
  refine ⟨r', ρ, rfl, ?_, ⟨fun i b hi => ?_, hr.apart⟩, hf, ⟨⟨Sub.refl ρ, h4.ext.size, fun B hB _ => hheap B hB, fun i g hi hg => (by rw [hi] at hg; cases hg), fun i b' hi => .inl ⟨b', hi, fun h => h⟩, h4.ext.io⟩, fun _ _ h => h, Nat.le_refl _⟩⟩
  · have hsame : r' = r := by
      cases h1 <;> first | rfl | (simp [plain] at hp)
    rw [hsame]; exact plain_self hp
  · obtain ⟨g, hg, ho⟩ := hr.one i b hi
    exact ⟨g, hg, ho.mono (Sub.refl ρ) (hheap g.blk ho.lt)⟩

/-- did a run answer 'true'? -/
noncomputable def isTrue (a : Ans) : Bool := Option.rec (motive := fun _ => Bool) false (fun p => Value.rec (motive_1 := fun _ => Bool) (motive_2 := fun _ => Bool) (motive_3 := fun _ => Bool)
  (fun b => b) (fun _ _ => false) (fun _ _ => false) (fun _ _ _ => false) (fun _ => false) (fun _ => false) (fun _ _ _ => false) (fun _ => false) (fun _ => false) (fun _ _ _ _ _ => false) false (fun _ _ _ => false) false (fun _ _ => false) (fun _ _ => false) (fun _ _ => false) false (fun _ _ _ _ => false) p.1) a
theorem isTrue_of {a : Ans} (h : isTrue a = true) : ∃ M, a = some (.bool true, M) := by
  cases a with
  | none => cases h
  | some p =>
    obtain ⟨v, M⟩ := p
    cases v <;> first | (cases h; done) | skip
    rename_i b
    have h : b = true := h
    subst h
    exact ⟨M, rfl⟩
/-- did a run hand back a pointer to a block's beginning? -/
noncomputable def isPtr0 (a : Ans) : Bool := match a with
  | some (.pointer (some ⟨_, 0, none⟩), _) => true
  | _ => false
theorem isPtr0_of {a : Ans} (h : isPtr0 a = true) : ∃ i M, a = some (.pointer (some ⟨i, 0, none⟩), M) := by
  unfold isPtr0 at h
  split at h
  · exact ⟨_, _, rfl⟩
  · cases h
noncomputable def ovNone : Over := fun _ => none
theorem ovNone_ok {P : Program} : ∀ f g, ovNone f = some g → ∀ l M v M', g l M = some (v, M') → ACall P f l.toArray M v M' := fun f g h => by cases h
end Go.Proofs.YtopblipficpilaaGreatDoor.AY
