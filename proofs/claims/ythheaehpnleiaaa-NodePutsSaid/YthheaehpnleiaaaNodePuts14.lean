/- bytes.Compare: a function whose body is no Go. -/
import Derived.Test.YthheaehpnleiaaaNodePuts13
import Derived.WalkKit
import Derived.Lib.Bytealg
import Derived.Lib.BytesEntry
namespace Go.Proofs.Ythheaehpnleiaaa.AX
open Go Go.Proofs
set_option maxRecDepth 100000
set_option linter.unusedVariables false
set_option linter.unusedSimpArgs false

theorem bytes_read {P : Program} {ρ : Emb} {m : Mm} {w : World} {v v' : Value} {l : List Int} (h : contentV m 1 v = some (l.length, cB l)) (hs : ∀ s, v ≠ .string s) (hv : VR P ρ v v') (hr : HR P ρ m w) :
    (Extern.Bytes.bytesOf v').run P w = .ok ⟨(Go.Lib.bytesOf l).toArray⟩ w := by
  have fin : ∀ (a : Addr) (c : Nat), (∀ (j : Nat) (x : Int), l[j]? = some x → w.cell? (a.add j) = some (.int .u8 x)) → (Extern.Bytes.bytesOf (.slice (some a) l.length c)).run P w = .ok ⟨(Go.Lib.bytesOf l).toArray⟩ w := by
    intro a c hc
    have hl := Go.Lib.run_loadBytesX (P := P) w l a .empty hc
    have he : (⟨ByteArray.empty.data ++ (Go.Lib.bytesOf l).toArray⟩ : ByteArray) = ⟨(Go.Lib.bytesOf l).toArray⟩ := by
      apply ByteArray.ext
      show (#[] : Array UInt8) ++ (Go.Lib.bytesOf l).toArray = (Go.Lib.bytesOf l).toArray
      simp
    rw [he] at hl
    exact hl
  unfold contentV at h
  split at h
  · simp only [Option.some.injEq, Prod.mk.injEq] at h
    have h0 : l = [] := List.eq_nil_of_length_eq_zero h.1.symm
    subst h0
    cases hv
    rfl
  · cases hv with
    | slice hf hn hc hp hroom hsp =>
      rename_i c' p sp f
      split at h
      · rename_i h0
        subst h0
        simp only [Option.some.injEq, Prod.mk.injEq] at h
        have h0 : l = [] := List.eq_nil_of_length_eq_zero h.1.symm
        subst h0
        exact fin _ _ (by simp)
      · rename_i h0
        split at h
        · rename_i blk hb
          split at h
          · rename_i hle
            simp only [Option.some.injEq, Prod.mk.injEq] at h
            obtain ⟨rfl, hcells⟩ := h
            obtain rfl := hsp (by omega)
            have hpe := hp (.inl (by omega))
            subst hpe
            obtain ⟨f', hf', hone⟩ := hr.one _ blk hb
            rw [hf] at hf'; cases hf'
            obtain ⟨vs, hl, hvl, hcell⟩ := hone.range hle
            rw [hcells] at hvl
            have hvs := hvl.ints
            subst hvs
            refine fin _ _ fun j x hx => hcell j _ ?_
            simp [hx]
          · cases h
        · cases h
  · exact absurd rfl (hs _)
  · cases h

/-- how two rows of bytes stand to each other -/
def cmpB (l m : List Int) : Int := Go.Lib.compareBytes (Go.Lib.bytesOf l) (Go.Lib.bytesOf m)
theorem compare_gen (v u : Value) (l m : List Int) (M : Mem) (hl : contentV M.get 1 v = some (l.length, cB l)) (hm : contentV M.get 1 u = some (m.length, cB m)) (h1 : ∀ s, v ≠ .string s) (h2 : ∀ s, u ≠ .string s) :
    ACall Try.prog 100 #[v, u] M (.int .i64 (cmpB l m)) M := by
  intro ρ w args' ha hr hf
  obtain ⟨v', u', rfl, hv, hu⟩ : ∃ v' u', args' = #[v', u'] ∧ VR Try.prog ρ v v' ∧ VR Try.prog ρ u u' := by
    obtain ⟨hs, hat⟩ := ha
    match args', hs with
    | ⟨[v', u']⟩, _ => exact ⟨v', u', rfl, hat 0 v v' rfl rfl, hat 1 u u' rfl rfl⟩
  have hx : (Extern.BytealgCompare.compare #[v', u']).run Try.prog w = .ok (.int .i64 (cmpB l m)) w := by
    have e1 := bytes_read hl h1 hv hr
    have e2 := bytes_read hm h2 hu hr
    change Sem.run Try.prog (do pure (goInt (Extern.BytealgCompare.cmp (← Extern.Bytes.bytesOf v') (← Extern.Bytes.bytesOf u')))) w = _
    simp only [Sem.run_bind, Sem.run_pure, Result.andThen, e1, e2]
    rw [Go.Lib.cmp_eq]
    rfl
  go_enter Try.func100, Try.ntmps100
  go_wp2
  rw [run_callFunc_extern Try.func105 (by kernel_rfl) (by kernel_rfl) (by kernel_rfl) (e := Extern.BytealgCompare.compare) (by kernel_rfl), hx]
  simp only [Result.andThen]
  rw [Oper.upon_value]
  go_wp2
  go_ret
  exact ⟨_, ρ, rfl, .int _ _, hr, hf, Grow.refl _ _ _⟩

theorem Row_.nostr {M : Mem} {v : Value} {n : Nat} {cells : List Value} (h : Row_ M v n cells) : ∀ s, v ≠ .string s := by
  rintro s rfl
  rcases h with ⟨_, _, h | ⟨b, o, c, h⟩⟩ | ⟨b, o, c, blk, h, _⟩ <;> cases h
theorem compare100_spec (v u : Value) (l m : List Int) (M : Mem) (hv : RowB M v l) (hu : RowB M u m) : ACall Try.prog 100 #[v, u] M (.int .i64 (cmpB l m)) M :=
  compare_gen v u l m M (hv.content (by simp [cB])) (hu.content (by simp [cB])) hv.nostr hu.nostr

/-- bytes -/
def Byt (l : List Int) : Prop := ∀ x, x ∈ l → 0 ≤ x ∧ x < 256
theorem cmpB_less {l m : List Int} (hl : Byt l) (hm : Byt m) : (cmpB l m < 0 ↔ lessB l m = true) ∧ (cmpB l m = 0 ↔ l = m) := by
  unfold cmpB
  induction l generalizing m with
  | nil => cases m <;> simp [Go.Lib.bytesOf, Go.Lib.compareBytes, lessB]
  | cons x l ih =>
    cases m with
    | nil => simp [Go.Lib.bytesOf, Go.Lib.compareBytes, lessB]
    | cons y m =>
      have hx := hl x List.mem_cons_self
      have hy := hm y List.mem_cons_self
      have ih := ih (m := m) (fun z hz => hl z (List.mem_cons_of_mem _ hz)) (fun z hz => hm z (List.mem_cons_of_mem _ hz))
      have hlt : ∀ a b : Int, 0 ≤ a → a < 256 → 0 ≤ b → b < 256 → (UInt8.ofNat a.toNat < UInt8.ofNat b.toNat ↔ a < b) := fun a b h1 h2 h3 h4 => by
        rw [UInt8.lt_iff_toNat_lt, UInt8.toNat_ofNat', UInt8.toNat_ofNat']
        have e1 : a.toNat % 2 ^ 8 = a.toNat := Nat.mod_eq_of_lt (by omega)
        have e2 : b.toNat % 2 ^ 8 = b.toNat := Nat.mod_eq_of_lt (by omega)
        rw [e1, e2]; omega
      simp only [Go.Lib.bytesOf, List.map_cons, Go.Lib.compareBytes, lessB, hlt x y hx.1 hx.2 hy.1 hy.2, hlt y x hy.1 hy.2 hx.1 hx.2]
      by_cases h1 : x < y
      · have : x ≠ y := by omega
        simp [h1, this]
      · by_cases h2 : y < x
        · have : x ≠ y := by omega
          simp [h1, h2, this]
        · have : x = y := by omega
          subst this
          simp only [h1, if_false, if_true, List.cons.injEq, true_and]
          exact ih
end Go.Proofs.Ythheaehpnleiaaa.AX
