/- The layer, fifth part: regions: effects, the whole, and a region's rule. -/
import Derived.Test.YthheaehpnleiaaaAxD
namespace Go.Proofs.Ythheaehpnleiaaa.AX
open Go
set_option linter.unusedVariables false
set_option linter.unusedSimpArgs false
section
variable {P : Program} {ops : Array Oper} {k : Nat} {e0 : Env} {M0 : Mem} {ρ0 : Emb} {w0 : World} {T : List Tk}

theorem alloc_isAlloc {t : Tk} (h : t.Ok P ops) {i : Nat} {b : Blk} (hc : t.cls = .alloc i b) : isAlloc P t.o = true := by
  have := h.cls; rw [hc] at this; exact this.2.2.1

theorem Inv.upto (hst : Static P k ops T) (hok : ∀ t, t ∈ T → t.Ok P ops) {e' : Env} {M' : Mem} (hch : Chain T e0 M0 e' M') {S : Nat → Prop} (hcl : ∀ j, S j → ∀ d, Direct ops d j → S d)
    {a : Act} {w : World} {T1 T2 : List Tk} {ρ : Emb} {p : Mm} {B : Mem} (hi : Inv P k e0 M0 ρ0 w0 T S a w T1 T2 ρ p B) {t : Tk} (htT : t ∈ T) (hno : ¬ S t.i) (hd : ∀ d, Direct ops d t.i → S d) (hE : isEff t.o = true) :
    ∃ U C, T2 = U ++ t :: C ∧ (∀ u, u ∈ U → isEff u.o = false) ∧ (∀ u, u ∈ U → isAlloc P u.o = true → S u.i) ∧ t.pre.next = B.next ∧ Within t.pre.get p ∧
      (∀ i b, t.pre.get i = some b → B.get i = some b ∨ ∃ u, u ∈ U ∧ u.cls = .alloc i b) ∧ (∀ i, t.pre.get i = none → B.get i = none ∧ ∀ u b, u ∈ U → u.cls ≠ .alloc i b) := by
  have ht2 : t ∈ T2 := by
    have := htT; rw [hi.cut] at this
    exact (List.mem_append.1 this).resolve_left fun h => hno (hi.done t h (.inl hE))
  obtain ⟨U, C, hU⟩ := List.append_of_mem ht2
  have hcutT : T = (T1 ++ U) ++ t :: C := by rw [hi.cut, hU]; simp
  have hmem : ∀ u, u ∈ U → u ∈ T2 := fun u hu => by rw [hU]; exact List.mem_append_left _ hu
  have hmemT : ∀ u, u ∈ U → u ∈ T := fun u hu => by rw [hi.cut]; exact List.mem_append_right _ (hmem u hu)
  have hS : ∀ u, u ∈ U → isEff u.o = true ∨ isAlloc P u.o = true → S u.i := fun u hu h =>
    anc_done hcl (hst.effs (T1 ++ U) t C hcutT hE u (List.mem_append_right _ hu) h) hd
  have hne : ∀ u, u ∈ U → isEff u.o = false := fun u hu => by
    cases h : isEff u.o with
    | false => rfl
    | true => exact absurd (hS u hu (.inl h)) (hi.open_ u (hmem u hu) h)
  have hch' := hch
  rw [hi.cut] at hch'
  obtain ⟨M₁, h1, h2⟩ := hch'.split
  have hB : M₁ = B := by rw [h1.bound, hi.base]
  subst hB
  rw [hU] at h2
  obtain ⟨M₂, h3, h4⟩ := h2.split
  have hpre : t.pre = M₂ := h4.2.1
  obtain ⟨q1, q2, q3⟩ := h3.quiet (fun u hu => hok u (hmemT u hu)) hne
  rw [← hpre] at q1 q2 q3
  refine ⟨U, C, hU, hne, fun u hu h => hS u hu (.inr h), q1, fun i b hb => ?_, q2, q3⟩
  rcases q2 i b hb with h | ⟨u, hu, hc⟩
  · exact hi.pin i b h
  · exact hi.pal u i b (hmem u hu) hc (hS u hu (.inr (alloc_isAlloc (hok u (hmemT u hu)) hc)))

theorem Inv.effSkip (hst : Static P k ops T) (hids : ∀ t u i b b', t ∈ T → u ∈ T → t.cls = .alloc i b → u.cls = .alloc i b' → t.i = u.i) (hok : ∀ t, t ∈ T → t.Ok P ops) (hr0 : HR P ρ0 M0.get w0)
    {S : Nat → Prop} {a : Act} {w : World} {T1 T2 : List Tk} {ρ : Emb} {p : Mm} {B : Mem} (hi : Inv P k e0 M0 ρ0 w0 T S a w T1 T2 ρ p B) {t : Tk} (htT : t ∈ T) (hno : ¬ S t.i) (hE : isEff t.o = true)
    (hpost : t.post = t.pre) (hv : t.v = undef) {U C : List Tk} (hU : T2 = U ++ t :: C) (hne : ∀ u, u ∈ U → isEff u.o = false) (hal : ∀ u, u ∈ U → isAlloc P u.o = true → S u.i) (hnx : t.pre.next = B.next) (hwi : Within t.pre.get p)
    (hq2 : ∀ i b, t.pre.get i = some b → B.get i = some b ∨ ∃ u, u ∈ U ∧ u.cls = .alloc i b) (hq3 : ∀ i, t.pre.get i = none → B.get i = none ∧ ∀ u b, u ∈ U → u.cls ≠ .alloc i b) :
    Inv P k e0 M0 ρ0 w0 T (fun j => j = t.i ∨ S j) (a.put t.o.dst undef) w (T1 ++ U ++ [t]) C ρ p t.post := by
  have hcutT : T = (T1 ++ U ++ [t]) ++ C := by rw [hi.cut, hU]; simp
  have h2T : ∀ u, u ∈ T2 → u ∈ T := fun u hu => by rw [hi.cut]; exact List.mem_append_right _ hu
  have hC2 : ∀ u, u ∈ C → u ∈ T2 := fun u hu => by rw [hU]; simp [hu]
  have hU2 : ∀ u, u ∈ U → u ∈ T2 := fun u hu => by rw [hU]; simp [hu]
  have hCne : ∀ u, u ∈ C → u.i ≠ t.i := fun u hu h => by
    obtain ⟨C1, C2, hC⟩ := List.append_of_mem hu
    exact hst.nodup (T1 ++ U ++ [t] ++ C1) u C2 (by rw [hcutT, hC]; simp) t (by simp) h.symm
  have hCpre : ∀ u i b, u ∈ C → u.cls = .alloc i b → t.pre.get i = none := fun u i b hu hc => by
    cases hg : t.pre.get i with
    | none => rfl
    | some c =>
      rcases hq2 i c hg with h | ⟨x, hx, hxc⟩
      · have := (hi.res u i b (hC2 u hu) hc).2; rw [h] at this; cases this
      · have := hids x u i c b (h2T x (hU2 x hx)) (h2T u (hC2 u hu)) hxc hc
        obtain ⟨C1, C2, hC⟩ := List.append_of_mem hu
        exact absurd this (hst.nodup (T1 ++ U ++ [t] ++ C1) u C2 (by rw [hcutT, hC]; simp) x (by simp [hx]))
  exact {
    cut := hcutT
    last := lastEff_snoc T1 U hE
    base := (bound_snoc M0 (T1 ++ U) t).symm
    done := fun u hu h => by
      rcases List.mem_append.1 hu with hu | hu
      · rcases List.mem_append.1 hu with hu | hu
        · exact .inr (hi.done u hu h)
        · exact .inr (h.elim (fun h => by rw [hne u hu] at h; cases h) (hal u hu))
      · exact .inl (by rw [List.mem_singleton.1 hu])
    open_ := fun u hu h hS => by
      rcases hS with hS | hS
      · exact hCne u hu hS
      · exact hi.open_ u (hC2 u hu) h hS
    hr := hi.hr
    free := by rw [hpost, hnx]; exact hi.free
    pin := fun i b h => by rw [hpost] at h; exact hwi i b h
    pal := fun u i b hu hc hS => hi.pal u i b (hC2 u hu) hc (hS.resolve_left (hCne u hu))
    pof := fun i b h => by
      rw [hpost]
      cases hg : t.pre.get i with
      | some c => have := hwi i c hg; rw [h] at this; cases this; exact .inl rfl
      | none =>
        obtain ⟨h1, h2⟩ := hq3 i hg
        rcases hi.pof i b h with h | ⟨u, hu, hc, hS⟩
        · rw [h1] at h; cases h
        · rw [hU] at hu
          rcases List.mem_append.1 hu with hu | hu
          · exact absurd hc (h2 u b hu)
          · rcases List.mem_cons.1 hu with rfl | hu
            · exact absurd hS hno
            · exact .inr ⟨u, hu, hc, .inr hS⟩
    un := fun u i b hu hc hS => hi.un u i b (hC2 u hu) hc fun h => hS (.inr h)
    res := fun u i b hu hc => ⟨by rw [hpost, hnx]; exact (hi.res u i b (hC2 u hu) hc).1, by rw [hpost]; exact hCpre u i b hu hc⟩
    tin := tin_step hst htT hno hi.size (Sub.refl ρ) (by rw [hv]; exact VR.undef P ρ) hi.tin
    tof := tof_step hst htT (Sub.refl ρ) hi.tof
    ext := hi.ext
    keep := hi.keep
    next := by rw [hpost, hnx]; exact hi.next
    defers := (put_defers' _ _ _).trans hi.defers
    size := (put_size _ _ _).trans hi.size }

theorem Inv.eff (hst : Static P k ops T) (hids : ∀ t u i b b', t ∈ T → u ∈ T → t.cls = .alloc i b → u.cls = .alloc i b' → t.i = u.i) (hok : ∀ t, t ∈ T → t.Ok P ops) (hr0 : HR P ρ0 M0.get w0)
    {S : Nat → Prop} {a : Act} {w w' : World} {T1 T2 : List Tk} {ρ ρ' : Emb} {p : Mm} {B : Mem} (hi : Inv P k e0 M0 ρ0 w0 T S a w T1 T2 ρ p B) {t : Tk} (htT : t ∈ T) (hno : ¬ S t.i) (hE : isEff t.o = true) (hcl : t.cls = .eff)
    {U C : List Tk} (hU : T2 = U ++ t :: C) (hne : ∀ u, u ∈ U → isEff u.o = false) (hal : ∀ u, u ∈ U → isAlloc P u.o = true → S u.i) (hnx : t.pre.next = B.next) (hwi : Within t.pre.get p)
    (hq2 : ∀ i b, t.pre.get i = some b → B.get i = some b ∨ ∃ u, u ∈ U ∧ u.cls = .alloc i b) (hq3 : ∀ i, t.pre.get i = none → B.get i = none ∧ ∀ u b, u ∈ U → u.cls ≠ .alloc i b)
    {v' : Value} (hv : VR P ρ' t.v v') (hr : HR P ρ' t.post.get w') (hf : Free ρ' t.post.next) (hg : Grow ρ t.pre w ρ' t.post w') :
    Inv P k e0 M0 ρ0 w0 T (fun j => j = t.i ∨ S j) (a.put t.o.dst v') w' (T1 ++ U ++ [t]) C ρ' (join t.pre.get t.post.get p) t.post := by
  obtain ⟨hr', he'⟩ := frame hi.hr hwi hg.ext hr
  have hcutT : T = (T1 ++ U ++ [t]) ++ C := by rw [hi.cut, hU]; simp
  have h2T : ∀ u, u ∈ T2 → u ∈ T := fun u hu => by rw [hi.cut]; exact List.mem_append_right _ hu
  have hC2 : ∀ u, u ∈ C → u ∈ T2 := fun u hu => by rw [hU]; simp [hu]
  have hU2 : ∀ u, u ∈ U → u ∈ T2 := fun u hu => by rw [hU]; simp [hu]
  have hCne : ∀ u, u ∈ C → u.i ≠ t.i := fun u hu h => by
    obtain ⟨C1, C2, hC⟩ := List.append_of_mem hu
    exact hst.nodup (T1 ++ U ++ [t] ++ C1) u C2 (by rw [hcutT, hC]; simp) t (by simp) h.symm
  have hCpre : ∀ u i b, u ∈ C → u.cls = .alloc i b → t.pre.get i = none := fun u i b hu hc => by
    cases hg : t.pre.get i with
    | none => rfl
    | some c =>
      rcases hq2 i c hg with h | ⟨x, hx, hxc⟩
      · have := (hi.res u i b (hC2 u hu) hc).2; rw [h] at this; cases this
      · have := hids x u i c b (h2T x (hU2 x hx)) (h2T u (hC2 u hu)) hxc hc
        obtain ⟨C1, C2, hC⟩ := List.append_of_mem hu
        exact absurd this (hst.nodup (T1 ++ U ++ [t] ++ C1) u C2 (by rw [hcutT, hC]; simp) x (by simp [hx]))
  -- a place that the rest holds beside what the effect saw
  have rest : ∀ i b, t.pre.get i = none → p i = some b → (∃ u, u ∈ C ∧ u.cls = .alloc i b ∧ S u.i) ∧ ρ i ≠ none := fun i b hg h => by
    obtain ⟨h1, h2⟩ := hq3 i hg
    obtain ⟨f, hf', _⟩ := hi.hr.one i b h
    refine ⟨?_, by rw [hf']; simp⟩
    rcases hi.pof i b h with h | ⟨u, hu, hc, hS⟩
    · rw [h1] at h; cases h
    · rw [hU] at hu
      rcases List.mem_append.1 hu with hu | hu
      · exact absurd hc (h2 u b hu)
      · rcases List.mem_cons.1 hu with rfl | hu
        · exact absurd hS hno
        · exact ⟨u, hu, hc, hS⟩
  have postnone : ∀ i, t.pre.get i = none → ρ i ≠ none → t.post.get i = none := fun i hg hρ => by
    cases hp : t.post.get i with
    | none => rfl
    | some c =>
      rcases hg' : hg with _
      rcases (Grow.ext ‹_›).ids i c hp with ⟨b, hb, _⟩ | h
      · rw [hg] at hb; cases hb
      · exact absurd h hρ
  exact {
    cut := hcutT
    last := lastEff_snoc T1 U hE
    base := (bound_snoc M0 (T1 ++ U) t).symm
    done := fun u hu h => by
      rcases List.mem_append.1 hu with hu | hu
      · rcases List.mem_append.1 hu with hu | hu
        · exact .inr (hi.done u hu h)
        · exact .inr (h.elim (fun h => by rw [hne u hu] at h; cases h) (hal u hu))
      · exact .inl (by rw [List.mem_singleton.1 hu])
    open_ := fun u hu h hS => by
      rcases hS with hS | hS
      · exact hCne u hu hS
      · exact hi.open_ u (hC2 u hu) h hS
    hr := hr'
    free := hf
    pin := fun i b h => by
      unfold join
      cases hg1 : t.pre.get i with
      | some c => simpa using h
      | none =>
        cases hp : p i with
        | none => simpa using h
        | some c =>
          have := postnone i hg1 (rest i c hg1 hp).2
          rw [h] at this; cases this
    pal := fun u i b hu hc hS => by
      have h1 := hi.pal u i b (hC2 u hu) hc (hS.resolve_left (hCne u hu))
      unfold join
      simp [hCpre u i b hu hc, h1]
    pof := fun i b h => by
      rcases join_some h with ⟨h1, h2⟩ | ⟨h1, _⟩
      · obtain ⟨⟨u, hu, hc, hS⟩, _⟩ := rest i b h1 h2
        exact .inr ⟨u, hu, hc, .inr hS⟩
      · exact .inl h1
    un := fun u i b hu hc hS => by
      refine hg.keep i ?_ (hi.un u i b (hC2 u hu) hc fun h => hS (.inr h))
      rw [hnx]; exact (hi.res u i b (hC2 u hu) hc).1
    res := fun u i b hu hc => by
      have hlt := (hi.res u i b (hC2 u hu) hc).1
      refine ⟨by have := hg.next; omega, ?_⟩
      cases hρ : ρ i with
      | some f => exact postnone i (hCpre u i b hu hc) (by rw [hρ]; simp)
      | none =>
        cases hp : t.post.get i with
        | none => rfl
        | some c =>
          obtain ⟨f, hf', _⟩ := hr.one i c hp
          have := hg.keep i (by rw [hnx]; exact hlt) hρ
          rw [hf'] at this; cases this
    tin := tin_step hst htT hno hi.size hg.ext.sub hv hi.tin
    tof := tof_step hst htT hg.ext.sub hi.tof
    ext := hi.ext.trans hr0 he'
    keep := fun i h1 h2 h3 => hg.keep i (by have := hi.next; omega) (hi.keep i h1 h2 h3)
    next := by have := hi.next; have := hg.next; omega
    defers := (put_defers' _ _ _).trans hi.defers
    size := (put_size _ _ _).trans hi.size }
end
end Go.Proofs.Ythheaehpnleiaaa.AX
