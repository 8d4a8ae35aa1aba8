/- The layer: what this program calls that has no body. -/
import Derived.Test.YtopblipficpilaaGreatDoorBulkPuts16
import Derived.Test.YtopblipficpilaaGreatDoorProg
import Derived.Laws.Externs
import Derived.Lib.Bytealg
import Derived.Lib.BytesEntry
import Derived.KernelRfl
namespace Go.Proofs.YtopblipficpilaaGreatDoor.AY
open Go Go.Proofs
set_option maxRecDepth 100000
set_option linter.unusedVariables false
set_option linter.unusedSimpArgs false

def cU (l : List Int) : List Value := l.map fun n => .int .u8 n
theorem intsOf_eqB : ∀ {cs : List Value} {l : List Int}, intsOf cs = some l → cs = cU l
  | [], l, h => by simp only [intsOf, Option.some.injEq] at h; subst h; rfl
  | v :: cs, l, h => by
    cases v <;> try (simp [intsOf] at h; done)
    rename_i k n
    cases k <;> try (simp [intsOf] at h; done)
    simp only [intsOf] at h
    split at h
    · rename_i r h1; cases h; rw [intsOf_eqB h1]; rfl
    · cases h

theorem bytes_read {P : Program} {ρ : Emb} {m : Mm} {w : World} {v v' : Value} {l : List Int} (h : contentV m 1 v = some (l.length, cU l)) (hs : ∀ s, v ≠ .string s) (hv : VR P ρ v v') (hr : HR P ρ m w) :
    (Extern.Bytes.bytesOf v').run P w = .ok ⟨(Go.Lib.bytesOf l).toArray⟩ w := by
  have fin : ∀ (a : Addr) (c : Nat), (∀ (j : Nat) (x : Int), l[j]? = some x → w.cell? (a.add j) = some (.int .u8 x)) → (Extern.Bytes.bytesOf (.slice (some a) l.length c)).run P w = .ok ⟨(Go.Lib.bytesOf l).toArray⟩ w := by
    intro a c hc
    have hl := Go.Lib.run_loadBytesX (P := P) w l a .empty hc
    have he : (⟨ByteArray.empty.data ++ (Go.Lib.bytesOf l).toArray⟩ : ByteArray) = ⟨(Go.Lib.bytesOf l).toArray⟩ := by
      apply ByteArray.ext
      show (#[] : Array UInt8) ++ (Go.Lib.bytesOf l).toArray = (Go.Lib.bytesOf l).toArray
      simp
    rw [he] at hl
    exact hl
  unfold contentV at h
  split at h
  · simp only [Option.some.injEq, Prod.mk.injEq] at h
    have h0 : l = [] := List.eq_nil_of_length_eq_zero h.1.symm
    subst h0
    cases hv
    rfl
  · cases hv with
    | slice hf hn hc hp hroom hsp =>
      rename_i c' p sp f
      split at h
      · rename_i h0
        subst h0
        simp only [Option.some.injEq, Prod.mk.injEq] at h
        have h0 : l = [] := List.eq_nil_of_length_eq_zero h.1.symm
        subst h0
        exact fin _ _ (by simp)
      · rename_i h0
        split at h
        · rename_i blk hb
          split at h
          · rename_i hle
            simp only [Option.some.injEq, Prod.mk.injEq] at h
            obtain ⟨rfl, hcells⟩ := h
            obtain rfl := hsp (by omega)
            have hpe := hp (.inl (by omega))
            subst hpe
            obtain ⟨hb1, hob⟩ := rowsOf_some hb
            obtain ⟨f', hf', hone⟩ := hr.one _ blk hb1
            rw [hf] at hf'; cases hf'
            obtain ⟨vs, hl, hvl, hcell⟩ := hone.range hob hle
            rw [hcells] at hvl
            have hvs := hvl.ints
            subst hvs
            refine fin _ _ fun j x hx => hcell j _ ?_
            simp [hx, cU]
          · cases h
        · cases h
  · exact absurd rfl (hs _)
  · cases h
/-- how two rows of bytes stand to each other -/
def cmpB (l m : List Int) : Int := Go.Lib.compareBytes (Go.Lib.bytesOf l) (Go.Lib.bytesOf m)
/-- a row's bytes -/
def bytesV (M : Mem) (v : Value) : Option (List Int) := match v with
  | .slice a n c => match contentV M.get 1 (.slice a n c) with
    | some (k, cs) => match intsOf cs with
      | some l => bif Nat.beq l.length k then some l else none
      | none => none
    | none => none
  | _ => none
theorem bytesV_ok {M : Mem} {v : Value} {l : List Int} (h : bytesV M v = some l) : contentV M.get 1 v = some (l.length, cU l) ∧ ∀ s, v ≠ .string s := by
  unfold bytesV at h
  split at h
  · split at h
    · rename_i k cs hc
      split at h
      · rename_i l' hl
        simp only [beq_iff, Bool.cond_decide] at h
        split at h
        · rename_i hk
          cases h
          subst hk
          exact ⟨by rw [hc, intsOf_eqB hl], fun s hs => by cases hs⟩
        · cases h
      · cases h
    · cases h
  · cases h

/-- what a function without a body comes to, at operands that are known -/
def extV (fid : Nat) (M : Mem) (vs : List Value) : Option Value := bif Nat.beq fid 498 then (match vs with
    | [v, u] => match bytesV M v, bytesV M u with
      | some l, some m => some (.int .i64 (cmpB l m))
      | _, _ => none
    | _ => none)
  else bif Nat.beq fid 464 then (match vs with
    | [.string s, .int .u8 b] => some (.int .i64 (Go.Lib.countByte s.data.toList b.toNat.toUInt8))
    | _ => none)
  else bif Nat.beq fid 516 then (match vs with
    | [.string s, .int .u8 b] => some (.int .i64 (Go.Lib.indexByte s.data.toList b.toNat.toUInt8))
    | _ => none)
  else none
def extF : ExtF := fun ev M o => match o.op with
  | .call c => match c.callee with
    | .value f => match ev f, evL ev c.args.toList with
      | some (.func (.func fid) ⟨[]⟩ ⟨[]⟩), some vs => extV fid M vs
      | _, _ => none
    | _ => none
  | _ => none

theorem extV_run {fid : Nat} {M : Mem} {vs : List Value} {v : Value} (h : extV fid M vs = some v) {ρ : Emb} {w : World} {vs' : List Value} (hv : VL Tryz.prog ρ vs vs') (hr : HR Tryz.prog ρ M.get w) :
    (callFunc fid vs'.toArray).run Tryz.prog w = .ok (.value v) w ∧ plain v = true := by
  unfold extV at h
  simp only [beq_iff, Bool.cond_decide] at h
  split at h
  · rename_i hf
    subst hf
    split at h
    · rename_i a b
      split at h
      · rename_i l m hl hm
        cases h
        obtain ⟨h1, h2⟩ := bytesV_ok hl
        obtain ⟨h3, h4⟩ := bytesV_ok hm
        cases hv with
        | cons e1 hv =>
          cases hv with
          | cons e2 hv =>
            cases hv
            rename_i a' b'
            have e1 := bytes_read h1 h2 e1 hr
            have e2 := bytes_read h3 h4 e2 hr
            have hx : (Extern.BytealgCompare.compare #[a', b']).run Tryz.prog w = .ok (.int .i64 (cmpB l m)) w := by
              change Sem.run Tryz.prog (do pure (goInt (Extern.BytealgCompare.cmp (← Extern.Bytes.bytesOf a') (← Extern.Bytes.bytesOf b')))) w = _
              simp only [Sem.run_bind, Sem.run_pure, Result.andThen, e1, e2]
              rw [Go.Lib.cmp_eq]
              rfl
            refine ⟨?_, rfl⟩
            rw [run_callFunc_extern Tryz.func498 (by kernel_rfl) (by kernel_rfl) (by kernel_rfl) (e := Extern.BytealgCompare.compare) (by kernel_rfl), hx]
            rfl
      · cases h
    · cases h
  · split at h
    · rename_i hf
      subst hf
      split at h
      · cases h
        cases hv with
        | cons e1 hv =>
          cases hv with
          | cons e2 hv =>
            cases hv; cases e1; cases e2
            refine ⟨?_, rfl⟩
            rw [run_callFunc_extern Tryz.func464 (by kernel_rfl) (by kernel_rfl) (by kernel_rfl) (e := Extern.BytealgCount.count) (by kernel_rfl), Go.Lib.run_countString]
            rfl
      · cases h
    · split at h
      · rename_i hf
        subst hf
        split at h
        · cases h
          cases hv with
          | cons e1 hv =>
            cases hv with
            | cons e2 hv =>
              cases hv; cases e1; cases e2
              refine ⟨?_, rfl⟩
              rw [run_callFunc_extern Tryz.func516 (by kernel_rfl) (by kernel_rfl) (by kernel_rfl) (e := Extern.BytealgIndexByte.indexByte) (by kernel_rfl), Go.Lib.run_indexByteString]
              rfl
        · cases h
      · cases h
theorem extF_ok : ExtOk Tryz.prog extF := by
  intro ev M o v h
  unfold extF at h
  split at h
  · rename_i c ho
    split at h
    · rename_i f hc
      split at h
      · rename_i fid vs h1 h2
        refine ⟨fun x hx => ?_, EffOk.of_run fun ρ a w hop hr hf => ?_⟩
        · simp only [ho, Op.operands, Call.operands, hc] at hx
          simp at hx
          rcases hx with rfl | hx
          · exact ⟨_, h1⟩
          · exact evL_known h2 x (by simpa using hx)
        · have hat : ∀ x, x ∈ o.op.operands → ∀ u, ev x = some u → VR Tryz.prog ρ u (a.eval x) := fun x hx u hu => hop.at hx hu
          simp only [ho, Op.operands, Call.operands, hc] at hat
          have e1 := hat f (by simp) _ h1
          have e2 := evL_at (ρ := ρ) (P := Tryz.prog) (cv := a.eval) (fun x hx u hu => hat x (by simp; exact .inr (by simpa using hx)) u hu) h2
          have m1 : (c.args.toList.map a.eval).toArray = c.args.map a.eval := by apply Array.ext'; simp
          generalize hg : a.eval f = g' at e1
          cases e1 with
          | func fn hx hy hxx hyy =>
            rename_i first' captured'
            have hf0 : first' = #[] := Array.eq_empty_of_size_eq_zero hx.symm
            have hc0 : captured' = #[] := Array.eq_empty_of_size_eq_zero hy.symm
            subst hf0 hc0
            obtain ⟨hrun, hp⟩ := extV_run h e2 hr
            refine ⟨v, ρ, w, .inl ?_, plain_self hp, hr, hf, Grow.refl _ _ _⟩
            rw [m1] at hrun
            unfold execOp
            simp only [ho, resolve, hc, hg, Deferred.ofValue, Sem.run_bind, Sem.run_pure, Result.andThen_ok, invoke]
            simpa using hrun
      · cases h
    · cases h
  · cases h
end Go.Proofs.YtopblipficpilaaGreatDoor.AY
