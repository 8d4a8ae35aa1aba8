/- The layer, fourth part: regions, in whichever order they run: the proof. -/
import Derived.Test.YthheaehpnleiaaaAxC
namespace Go.Proofs.Ythheaehpnleiaaa.AX
open Go
set_option linter.unusedVariables false
set_option linter.unusedSimpArgs false

theorem Chain.bound {T : List Tk} : ∀ {e : Env} {M : Mem} {e' : Env} {M' : Mem}, Chain T e M e' M' → M' = bound M T := by
  induction T with
  | nil => intro e M e' M' h; exact h.2
  | cons t T ih => intro e M e' M' h; exact ih h.2.2

theorem put_at {a : Act} {d : Option Nat} {v : Value} {s : Nat} (h : d = some s) (hs : s < a.tmps.size) : (a.put d v).tmps[s]? = some v := by
  subst h; simp [Act.put, hs]
theorem put_off {a : Act} {d : Option Nat} {v : Value} {s : Nat} (h : d ≠ some s) : (a.put d v).tmps[s]? = a.tmps[s]? := by
  cases d with
  | none => rfl
  | some t => exact Array.getElem?_setIfInBounds_ne (by rintro rfl; exact h rfl)
theorem put_size (a : Act) (d : Option Nat) (v : Value) : (a.put d v).tmps.size = a.tmps.size := by cases d <;> simp [Act.put]
theorem put_defers' (a : Act) (d : Option Nat) (v : Value) : (a.put d v).defers = a.defers := by cases d <;> rfl

section
variable {P : Program} {ops : Array Oper} {k : Nat} {e0 : Env} {M0 : Mem} {ρ0 : Emb} {w0 : World} {T : List Tk}

theorem Static.eq (hst : Static P k ops T) {t u : Tk} (ht : t ∈ T) (hu : u ∈ T) (h : t.i = u.i) : t = u := by
  obtain ⟨A, C, hA⟩ := List.append_of_mem ht
  have h1 := hst.nodup A t C hA
  rw [hA] at hu
  rcases List.mem_append.1 hu with h2 | h2
  · exact absurd h.symm (h1 u h2)
  · rcases List.mem_cons.1 h2 with h3 | h3
    · exact h3.symm
    · obtain ⟨C1, C2, hC⟩ := List.append_of_mem h3
      exact absurd h (hst.nodup (A ++ t :: C1) u C2 (by rw [hA, hC]; simp) t (by simp))

theorem Static.dsts (hst : Static P k ops T) {t u : Tk} (ht : t ∈ T) (hu : u ∈ T) (hne : t.i ≠ u.i) {s : Nat} (h : t.o.dst = some s) : u.o.dst ≠ some s := by
  intro h'
  obtain ⟨A, C, hA⟩ := List.append_of_mem ht
  have hu' := hu
  rw [hA] at hu'
  rcases List.mem_append.1 hu' with h2 | h2
  · exact hst.one A t C hA u h2 s h' h
  · rcases List.mem_cons.1 h2 with h3 | h3
    · exact hne (h3 ▸ rfl)
    · obtain ⟨C1, C2, hC⟩ := List.append_of_mem h3
      exact hst.one (A ++ t :: C1) u C2 (by rw [hA, hC]; simp) t (by simp) s h h'

theorem Static.anc_before (hst : Static P k ops T) {i j : Nat} (h : Anc ops i j) : ∀ A t C, T = A ++ t :: C → t.i = j → ∃ u, u ∈ A ∧ u.i = i := by
  induction h with
  | one h => intro A t C hT hj; exact hst.topo A t C hT _ (hj ▸ h)
  | more h h' ih =>
    intro A t C hT hj
    obtain ⟨u, hu, hd⟩ := hst.topo A t C hT _ (hj ▸ h')
    obtain ⟨A1, A2, hA⟩ := List.append_of_mem hu
    obtain ⟨x, hx, hxi⟩ := ih A1 u (A2 ++ t :: C) (by rw [hT, hA]; simp) hd
    exact ⟨x, by rw [hA]; exact List.mem_append_left _ hx, hxi⟩

theorem anc_done {S : Nat → Prop} (hcl : ∀ j, S j → ∀ d, Direct ops d j → S d) {i j : Nat} (h : Anc ops i j) : (∀ d, Direct ops d j → S d) → S i := by
  induction h with
  | one h => exact fun hd => hd _ h
  | more h h' ih => exact fun hd => ih (hcl _ (hd _ h'))

/-- what an operation looks at is told by the machine's temporaries -/
theorem seen_at (hst : Static P k ops T) {S : Nat → Prop} {a : Act} {ρ : Emb} (hcl : ∀ j, S j → ∀ d, Direct ops d j → S d) {A C : List Tk} {t : Tk} (hT : T = A ++ t :: C)
    (hno : ¬ S t.i) (hd : ∀ d, Direct ops d t.i → S d)
    (tin : ∀ t s, t ∈ T → S t.i → t.o.dst = some s → ∃ v', a.tmps[s]? = some v' ∧ VR P ρ t.v v')
    (tof : ∀ s v, e0.get s = some v → (∀ t, t ∈ T → S t.i → t.o.dst ≠ some s) → ∃ v', a.tmps[s]? = some v' ∧ VR P ρ v v')
    {s : Nat} (hl : looks ops t.o s) {v : Value} (hv : (envOf e0 A).get s = some v) : ∃ v', a.tmps[s]? = some v' ∧ VR P ρ v v' := by
  have htT : t ∈ T := by rw [hT]; simp
  have hAT : ∀ u, u ∈ A → u ∈ T := fun u hu => by rw [hT]; exact List.mem_append_left _ hu
  rcases envOf_get A e0 s v hv with ⟨u, hu, hds, hvu⟩ | ⟨hg, hn⟩
  · have hne : t.i ≠ u.i := fun h => hst.nodup A t C hT u hu h.symm
    have hS : S u.i := by
      rcases hst.look t u htT (hAT u hu) hne s hds hl with h | h
      · exact anc_done hcl h hd
      · obtain ⟨A1, A2, hA⟩ := List.append_of_mem hu
        obtain ⟨x, hx, hxi⟩ := hst.anc_before h A1 u (A2 ++ t :: C) (by rw [hT, hA]; simp) rfl
        exact absurd hxi (hst.nodup A t C hT x (by rw [hA]; exact List.mem_append_left _ hx))
    obtain ⟨v', h1, h2⟩ := tin u s (hAT u hu) hS hds
    exact ⟨v', h1, hvu ▸ h2⟩
  · refine tof s v hg fun u hu hS hds => ?_
    by_cases hne : t.i = u.i
    · exact hno (hne ▸ hS)
    · rcases hst.look t u htT hu hne s hds hl with h | h
      · obtain ⟨x, hx, hxi⟩ := hst.anc_before h A t C hT rfl
        have : x = u := hst.eq (hAT x hx) hu hxi
        exact hn x hx (this ▸ hds)
      · exact hno (anc_done hcl h (hcl _ hS))

theorem want_at {a : Act} {ρ : Emb} {t : Tk} {e : Env} (hs : ∀ s, looks ops t.o s → ∀ v, e.get s = some v → ∃ v', a.tmps[s]? = some v' ∧ VR P ρ v v') {b : Bool} (h : wantA ops e t.o = some b) :
    Region.wanted t.o (yielded ops a.tmps) = b := by
  unfold wantA at h
  unfold Region.wanted
  cases hg : t.o.guard with
  | none => simp only [hg, Option.some.injEq] at h; simp [h]
  | some jw =>
    obtain ⟨j, want⟩ := jw
    simp only [hg] at h
    cases hd : (ops[j]?).bind (·.dst) with
    | none => simp only [hd, Option.some.injEq] at h; simp [yielded, hd, ← h]
    | some s =>
      simp only [hd] at h
      cases hv : e.get s with
      | none => simp [hv] at h
      | some v =>
        obtain ⟨v', h1, h2⟩ := hs s (.inr ⟨j, want, hg, hd⟩) v hv
        simp only [hv] at h
        cases h2 <;> simp at h
        · simp only [yielded, hd, Option.bind_some, h1, ← h]; rename_i c; cases c <;> cases want <;> rfl
        · simp only [yielded, hd, Option.bind_some, h1]; subst h; rfl

theorem tin_step (hst : Static P k ops T) {S : Nat → Prop} {a : Act} {ρ ρ' : Emb} {t : Tk} (htT : t ∈ T) (hno : ¬ S t.i) (hsz : a.tmps.size = k) (hs : Sub ρ ρ') {v' : Value} (hv : VR P ρ' t.v v')
    (tin : ∀ t s, t ∈ T → S t.i → t.o.dst = some s → ∃ v', a.tmps[s]? = some v' ∧ VR P ρ t.v v') :
    ∀ u s, u ∈ T → (u.i = t.i ∨ S u.i) → u.o.dst = some s → ∃ v'', (a.put t.o.dst v').tmps[s]? = some v'' ∧ VR P ρ' u.v v'' := by
  intro u s hu hS hds
  by_cases hne : u.i = t.i
  · have : u = t := hst.eq hu htT hne
    subst this
    exact ⟨v', put_at hds (hsz ▸ hst.dst u s hu hds), hv⟩
  · obtain ⟨x, h1, h2⟩ := tin u s hu (hS.resolve_left hne) hds
    exact ⟨x, by rw [put_off (hst.dsts hu htT hne hds)]; exact h1, h2.mono hs⟩

theorem tof_step (hst : Static P k ops T) {S : Nat → Prop} {a : Act} {ρ ρ' : Emb} {t : Tk} (htT : t ∈ T) (hs : Sub ρ ρ') {v' : Value}
    (tof : ∀ s v, e0.get s = some v → (∀ t, t ∈ T → S t.i → t.o.dst ≠ some s) → ∃ v', a.tmps[s]? = some v' ∧ VR P ρ v v') :
    ∀ s v, e0.get s = some v → (∀ u, u ∈ T → (u.i = t.i ∨ S u.i) → u.o.dst ≠ some s) → ∃ v'', (a.put t.o.dst v').tmps[s]? = some v'' ∧ VR P ρ' v v'' := by
  intro s v hg hn
  obtain ⟨x, h1, h2⟩ := tof s v hg fun u hu hS => hn u hu (.inr hS)
  exact ⟨x, by rw [put_off (hn t htT (.inl rfl))]; exact h1, h2.mono hs⟩

theorem first_of {p : Tk → Prop} [DecidablePred p] (h : ∃ t, t ∈ T ∧ p t) : ∃ A t C, T = A ++ t :: C ∧ p t ∧ ∀ u, u ∈ A → ¬ p u := by
  induction T with
  | nil => obtain ⟨t, ht, _⟩ := h; cases ht
  | cons x T ih =>
    by_cases hx : p x
    · exact ⟨[], x, T, rfl, hx, by simp⟩
    · obtain ⟨t, ht, hp⟩ := h
      obtain ⟨A, t, C, h1, h2, h3⟩ := ih ⟨t, (List.mem_cons.1 ht).resolve_left (fun h => hx (h ▸ hp)), hp⟩
      exact ⟨x :: A, t, C, by rw [h1]; rfl, h2, fun u hu => (List.mem_cons.1 hu).elim (fun h => h ▸ hx) (h3 u)⟩

theorem lastEff_snoc (A U : List Tk) {t : Tk} (h : isEff t.o = true) : lastEff (A ++ U ++ [t]) := .inr ⟨A ++ U, t, rfl, h⟩

/-- the end: all has run -/
theorem Inv.done_all (hok : ∀ t, t ∈ T → t.Ok P ops) {e' : Env} {M' : Mem} (hch : Chain T e0 M0 e' M') {S : Nat → Prop} {a : Act} {w : World} {T1 T2 : List Tk} {ρ : Emb} {p : Mm} {B : Mem}
    (hi : Inv P k e0 M0 ρ0 w0 T S a w T1 T2 ρ p B) (hall : ∀ t, t ∈ T → S t.i) :
    Cur P k ρ ⟨e', M'⟩ a w ∧ Ext ρ0 M0.get w0 ρ M'.get w ∧ (∀ i, i < M0.next → ρ0 i = none → (∀ t b, t ∈ T → t.cls ≠ .alloc i b) → ρ i = none) ∧ M0.next ≤ M'.next := by
  have hT2 : ∀ t, t ∈ T2 → t ∈ T := fun t ht => by rw [hi.cut]; exact List.mem_append_right _ ht
  have hne : ∀ t, t ∈ T2 → isEff t.o = false := fun t ht => by
    cases h : isEff t.o with
    | false => rfl
    | true => exact absurd (hall t (hT2 t ht)) (hi.open_ t ht h)
  have hch' := hch
  rw [hi.cut] at hch'
  obtain ⟨M₁, h1, h2⟩ := hch'.split
  have hB : M₁ = B := by rw [h1.bound, hi.base]
  subst hB
  obtain ⟨hn, hg, _⟩ := h2.quiet (fun t ht => hok t (hT2 t ht)) hne
  have hw : Within M'.get p := fun i b hb => (hg i b hb).elim (hi.pin i b) fun ⟨t, ht, hc⟩ => hi.pal t i b ht hc (hall t (hT2 t ht))
  refine ⟨⟨?_, hi.hr.within hw, by rw [hn]; exact hi.free, hi.defers, hi.size⟩, hi.ext.less' hw, hi.keep, by rw [hn]; exact hi.next⟩
  intro s v hs
  rw [show (St.mk e' M').env = e' from rfl, hch.env] at hs
  rcases envOf_get T e0 s v hs with ⟨u, hu, hd, hv⟩ | ⟨h3, h4⟩
  · obtain ⟨v', h5, h6⟩ := hi.tin u s hu (hall u hu) hd; exact ⟨v', h5, hv ▸ h6⟩
  · exact hi.tof s v h3 fun u hu _ => h4 u hu

/-- an operation that moves no bound: the memory is as it was -/
theorem Inv.still (hst : Static P k ops T) (hr0 : HR P ρ0 M0.get w0) {S : Nat → Prop} {a : Act} {w w' : World} {T1 T2 : List Tk} {ρ : Emb} {p : Mm} {B : Mem}
    (hi : Inv P k e0 M0 ρ0 w0 T S a w T1 T2 ρ p B) {t : Tk} (htT : t ∈ T) (hno : ¬ S t.i) (hne : isEff t.o = false) (hna : ∀ i b, t.cls ≠ .alloc i b)
    (hr : HR P ρ p w') (he : Ext ρ p w ρ p w') {v' : Value} (hv : VR P ρ t.v v') :
    Inv P k e0 M0 ρ0 w0 T (fun j => j = t.i ∨ S j) (a.put t.o.dst v') w' T1 T2 ρ p B where
  cut := hi.cut
  last := hi.last
  base := hi.base
  done := fun u hu h => .inr (hi.done u hu h)
  open_ := fun u hu h hS => by
    have huT : u ∈ T := by rw [hi.cut]; exact List.mem_append_right _ hu
    rcases hS with hS | hS
    · rw [hst.eq huT htT hS, hne] at h; cases h
    · exact hi.open_ u hu h hS
  hr := hr
  free := hi.free
  pin := hi.pin
  pal := fun u i b hu hc hS => by
    have huT : u ∈ T := by rw [hi.cut]; exact List.mem_append_right _ hu
    rcases hS with hS | hS
    · rw [hst.eq huT htT hS] at hc; exact absurd hc (hna i b)
    · exact hi.pal u i b hu hc hS
  pof := fun i b h => (hi.pof i b h).imp id fun ⟨u, hu, hc, hS⟩ => ⟨u, hu, hc, .inr hS⟩
  un := fun u i b hu hc hS => hi.un u i b hu hc fun h => hS (.inr h)
  res := hi.res
  tin := tin_step hst htT hno hi.size (Sub.refl ρ) hv hi.tin
  tof := tof_step hst htT (Sub.refl ρ) hi.tof
  ext := hi.ext.trans hr0 he
  keep := hi.keep
  next := hi.next
  defers := (put_defers' _ _ _).trans hi.defers
  size := (put_size _ _ _).trans hi.size

theorem Inv.alloc (hst : Static P k ops T) (hids : ∀ t u i b b', t ∈ T → u ∈ T → t.cls = .alloc i b → u.cls = .alloc i b' → t.i = u.i) (hr0 : HR P ρ0 M0.get w0) {S : Nat → Prop} {a : Act} {w w' : World} {T1 T2 : List Tk} {ρ : Emb} {p : Mm} {B : Mem}
    (hi : Inv P k e0 M0 ρ0 w0 T S a w T1 T2 ρ p B) {t : Tk} (htT : t ∈ T2) (hno : ¬ S t.i) (hne : isEff t.o = false) {id : Nat} {b : Blk} (hc : t.cls = .alloc id b) {f : Inf}
    (hr : HR P (updE ρ id f) (updM p id b) w') (he : Ext ρ p w (updE ρ id f) (updM p id b) w') {v' : Value} (hv : VR P (updE ρ id f) t.v v') :
    Inv P k e0 M0 ρ0 w0 T (fun j => j = t.i ∨ S j) (a.put t.o.dst v') w' T1 T2 (updE ρ id f) (updM p id b) B := by
  have hT2 : ∀ u, u ∈ T2 → u ∈ T := fun u hu => by rw [hi.cut]; exact List.mem_append_right _ hu
  have hnone : ρ id = none := hi.un t id b htT hc hno
  have hsub : Sub ρ (updE ρ id f) := fun i g hg => by
    unfold updE
    by_cases h : i = id
    · subst h; rw [hnone] at hg; cases hg
    · simp [h, hg]
  obtain ⟨hlt, hBn⟩ := hi.res t id b htT hc
  exact {
    cut := hi.cut
    last := hi.last
    base := hi.base
    done := fun u hu h => .inr (hi.done u hu h)
    open_ := fun u hu h hS => by
      rcases hS with hS | hS
      · rw [hst.eq (hT2 u hu) (hT2 t htT) hS, hne] at h; cases h
      · exact hi.open_ u hu h hS
    hr := hr
    free := fun i hi' => by
      unfold updE
      have : i ≠ id := by omega
      simp [this, hi.free i hi']
    pin := fun i c h => by
      unfold updM
      have : i ≠ id := by rintro rfl; rw [hBn] at h; cases h
      simp [this, hi.pin i c h]
    pal := fun u i c hu hcu hS => by
      unfold updM
      rcases hS with hS | hS
      · have := hst.eq (hT2 u hu) (hT2 t htT) hS
        subst this
        rw [hc] at hcu; cases hcu; simp
      · have : i ≠ id := by
          rintro rfl
          have := hids u t i c b (hT2 u hu) (hT2 t htT) hcu hc
          exact hno (this ▸ hS)
        simp [this, hi.pal u i c hu hcu hS]
    pof := fun i c h => by
      unfold updM at h
      by_cases hii : i = id
      · subst hii; simp at h; subst h; exact .inr ⟨t, htT, hc, .inl rfl⟩
      · simp [hii] at h; exact (hi.pof i c h).imp (fun h => h) fun ⟨u, hu, hcu, hS⟩ => ⟨u, hu, hcu, .inr hS⟩
    un := fun u i c hu hcu hS => by
      unfold updE
      have : i ≠ id := by
        rintro rfl
        exact hS (.inl (hids u t i c b (hT2 u hu) (hT2 t htT) hcu hc))
      simp [this, hi.un u i c hu hcu fun h => hS (.inr h)]
    res := hi.res
    tin := tin_step hst (hT2 t htT) hno hi.size hsub hv hi.tin
    tof := tof_step hst (hT2 t htT) hsub hi.tof
    ext := hi.ext.trans hr0 he
    keep := fun i h1 h2 h3 => by
      unfold updE
      have : i ≠ id := by rintro rfl; exact h3 t b (hT2 t htT) hc
      simp [this, hi.keep i h1 h2 h3]
    next := hi.next
    defers := (put_defers' _ _ _).trans hi.defers
    size := (put_size _ _ _).trans hi.size }
end
end Go.Proofs.Ythheaehpnleiaaa.AX
