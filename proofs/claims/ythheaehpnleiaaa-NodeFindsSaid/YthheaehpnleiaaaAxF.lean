/- The layer, sixth part: a region's rule, in any order and in the one order. -/
import Derived.Test.YthheaehpnleiaaaAxE
namespace Go.Proofs.Ythheaehpnleiaaa.AX
open Go
set_option linter.unusedVariables false
set_option linter.unusedSimpArgs false
section
variable {P : Program} {ops : Array Oper} {k : Nat} {e0 : Env} {M0 : Mem} {ρ0 : Emb} {w0 : World} {T : List Tk}

def undone (listed : Array Bool) (t : Tk) : Bool := !listed.getD t.i false

theorem undone_less (listed : Array Bool) {t : Tk} (ht : t ∈ T) (h : undone listed t = true) (hlt : t.i < listed.size) :
    T.countP (undone (listed.setIfInBounds t.i true)) < T.countP (undone listed) := by
  obtain ⟨A, C, rfl⟩ := List.append_of_mem ht
  have mono : ∀ L : List Tk, L.countP (undone (listed.setIfInBounds t.i true)) ≤ L.countP (undone listed) := fun L =>
    List.countP_mono_left fun u hu h => by
      unfold undone at *
      simp only [Bool.not_eq_true'] at *
      cases hl : listed.getD u.i false with
      | false => rfl
      | true => rw [getD_set_true hl] at h; cases h
  have h1 : undone (listed.setIfInBounds t.i true) t = false := by unfold undone; simp [hlt]
  rw [List.countP_append, List.countP_append, List.countP_cons_of_pos h, List.countP_cons_of_neg (by simp [h1])]
  have := mono A
  have := mono C
  omega

theorem S_set (listed : Array Bool) {i : Nat} (hlt : i < listed.size) (j : Nat) : ((listed.setIfInBounds i true).getD j false = true) = (j = i ∨ listed.getD j false = true) := by
  apply propext
  by_cases h : j = i
  · subst h; simp [hlt]
  · rw [getD_set_ne false (Ne.symm h)]; simp [h]

theorem region_any (hst : Static P k ops T) (hids : ∀ t u i b b', t ∈ T → u ∈ T → t.cls = .alloc i b → u.cls = .alloc i b' → t.i = u.i) (hok : ∀ t, t ∈ T → t.Ok P ops)
    {e' : Env} {M' : Mem} (hch : Chain T e0 M0 e' M') {am : Nat → Nat → Bool} (ham : ∀ i j, am i j = true → Anc ops i j) (hrd : Reads P M0 T am) (hr0 : HR P ρ0 M0.get w0) {Q : Exit → Act → World → Prop}
    (hQ : ∀ ρ a w, Cur P k ρ ⟨e', M'⟩ a w → Ext ρ0 M0.get w0 ρ M'.get w → (∀ i, i < M0.next → ρ0 i = none → (∀ t b, t ∈ T → t.cls ≠ .alloc i b) → ρ i = none) → M0.next ≤ M'.next → Q .normal a w) :
    ∀ (fuel : Nat) (listed : Array Bool) (a : Act) (w : World) T1 T2 ρ p B, listed.size = ops.size → (∀ j, listed.getD j false = true → ∀ d, Direct ops d j → listed.getD d false = true) → T.countP (undone listed) ≤ fuel →
      Inv P k e0 M0 ρ0 w0 T (fun j => listed.getD j false = true) a w T1 T2 ρ p B → wpAny P .any ops Q fuel listed a w := by
  intro fuel
  have fin : ∀ (listed : Array Bool) (a : Act) (w : World) T1 T2 ρ p B, (∀ t, t ∈ T → listed.getD t.i false = true) → Inv P k e0 M0 ρ0 w0 T (fun j => listed.getD j false = true) a w T1 T2 ρ p B → Q .normal a w := by
    intro listed a w T1 T2 ρ p B hall hi
    obtain ⟨h1, h2, h3, h4⟩ := hi.done_all hok hch hall
    exact hQ ρ a w h1 h2 h3 h4
  have noready : ∀ (listed : Array Bool), listed.size = ops.size → (∀ t, t ∈ T → listed.getD t.i false = true) → Region.ready .any ops listed = [] := by
    intro listed hs hall
    cases hr : Region.ready .any ops listed with
    | nil => rfl
    | cons j l =>
      obtain ⟨h0, o, ho, _⟩ := mem_ready.1 (show j ∈ Region.ready .any ops listed by rw [hr]; simp)
      have hlt : j < ops.size := (Array.getElem?_eq_some_iff.1 ho).1
      obtain ⟨t, ht, rfl⟩ := hst.all j hlt
      have := hall t ht
      have h2 : t.i < listed.size := by omega
      simp [h2] at h0 this
      rw [h0] at this; cases this
  have allof : ∀ (listed : Array Bool), listed.size = ops.size → Region.ready .any ops listed = [] → ∀ t, t ∈ T → listed.getD t.i false = true := by
    intro listed hs hr t ht
    refine Classical.byContradiction fun hn => ?_
    obtain ⟨A, u, C, hT, hu, hA⟩ := first_of (T := T) (p := fun t => ¬ listed.getD t.i false = true) ⟨t, ht, hn⟩
    have huT : u ∈ T := by rw [hT]; simp
    have hlt : u.i < listed.size := by have := hst.lt u huT; omega
    have : u.i ∈ Region.ready .any ops listed := mem_ready.2 ⟨by simp [hlt] at hu ⊢; exact hu, u.o, (hok u huT).op, fun e he hb => by
      obtain ⟨x, hx, hxi⟩ := hst.topo A u C hT e.on ⟨u.o, (hok u huT).op, e, he, hb, rfl⟩
      have := hA x hx
      rw [hxi] at this
      exact Classical.not_not.1 this⟩
    rw [hr] at this; cases this
  induction fuel with
  | zero =>
    intro listed a w T1 T2 ρ p B hs hcl hc hi
    have hall : ∀ t, t ∈ T → listed.getD t.i false = true := fun t ht => by
      have h0 : T.countP (undone listed) = 0 := by omega
      have := List.countP_eq_zero.1 h0 t ht
      simpa [undone] using this
    exact ⟨noready listed hs hall, fin listed a w T1 T2 ρ p B hall hi⟩
  | succ fuel ih =>
    intro listed a w T1 T2 ρ p B hs hcl hc hi
    refine ⟨fun hr => fin listed a w T1 T2 ρ p B (allof listed hs hr) hi, fun j hj => ?_⟩
    obtain ⟨h0, o, ho, hdir⟩ := mem_ready.1 hj
    have hlt : j < ops.size := (Array.getElem?_eq_some_iff.1 ho).1
    obtain ⟨t, htT, rfl⟩ := hst.all j hlt
    have hto : t.o = o := by have := (hok t htT).op; rw [ho] at this; cases this; rfl
    subst hto
    have hl2 : t.i < listed.size := by omega
    have hno : ¬ listed.getD t.i false = true := by simp [hl2] at h0 ⊢; exact h0
    have hd : ∀ d, Direct ops d t.i → listed.getD d false = true := by
      rintro d ⟨o, ho', e, he, hb, rfl⟩
      rw [ho] at ho'; cases ho'
      exact hdir e he hb
    obtain ⟨A, C, hT⟩ := List.append_of_mem htT
    have hch' := hch
    rw [hT] at hch'
    obtain ⟨M₁, _, h2⟩ := hch'.split
    have henv : t.env = envOf e0 A := h2.1
    have hseen : ∀ s, looks ops t.o s → ∀ v, t.env.get s = some v → ∃ v', a.tmps[s]? = some v' ∧ VR P ρ v v' := fun s hl v hv =>
      seen_at hst hcl hT hno hd hi.tin hi.tof hl (henv ▸ hv)
    have hopnd : (∀ x, x ∈ t.o.op.operands → ∃ v, aev t.env x = some v) → Opnds P ρ (aev t.env) t.o a := by
      intro hall x hx
      obtain ⟨v, hv⟩ := hall x hx
      refine ⟨v, hv, ?_⟩
      cases x with
      | tmp s =>
        obtain ⟨v', h1, h2⟩ := hseen s (.inl hx) v hv
        simpa [Act.eval, h1] using h2
      | const c =>
        simp only [aev] at hv
        cases hp : plain c with
        | false => simp [hp] at hv
        | true => simp [hp] at hv; subst hv; exact plain_self hp
      | func f => simp only [aev, Option.some.injEq] at hv; subst hv; exact VR.fn _
      | global g => simp [aev] at hv
    have hok' := (hok t htT).cls
    have hcount : T.countP (undone (listed.setIfInBounds t.i true)) ≤ fuel := by
      have := undone_less (T := T) listed htT (by simpa [undone] using hno) hl2
      omega
    have hcl' : ∀ j, (listed.setIfInBounds t.i true).getD j false = true → ∀ d, Direct ops d j → (listed.setIfInBounds t.i true).getD d false = true := by
      intro j hj d hdj
      rw [S_set listed hl2] at hj ⊢
      rcases hj with rfl | hj
      · exact .inr (hd d hdj)
      · exact .inr (hcl j hj d hdj)
    have hset : (fun j => (listed.setIfInBounds t.i true).getD j false = true) = (fun j => j = t.i ∨ listed.getD j false = true) := funext fun j => S_set listed hl2 j
    have go : ∀ a' w' T1' T2' ρ' p' B', Inv P k e0 M0 ρ0 w0 T (fun j => j = t.i ∨ listed.getD j false = true) a' w' T1' T2' ρ' p' B' → wpAny P .any ops Q fuel (listed.setIfInBounds t.i true) a' w' :=
      fun a' w' T1' T2' ρ' p' B' hi' => ih (listed.setIfInBounds t.i true) a' w' T1' T2' ρ' p' B' (by simp [hs]) hcl' hcount (by rw [hset]; exact hi')
    unfold wpOp
    simp only [ho]
    cases hE : isEff t.o with
    | true =>
      obtain ⟨U, C2, hU, hne, hal, hnx, hwi, hq2, hq3⟩ := hi.upto hst hok hch hcl htT hno hd hE
      cases hc : t.cls with
      | skip =>
        rw [hc] at hok'; obtain ⟨hw, hv, hp⟩ := hok'
        simp only [want_at hseen hw, Bool.false_eq_true, if_false]
        exact go _ _ _ _ _ _ _ (hi.effSkip hst hids hok hr0 htT hno hE hp hv hU hne hal hnx hwi hq2 hq3)
      | eff =>
        rw [hc] at hok'; obtain ⟨hw, hall, _, he⟩ := hok'
        simp only [want_at hseen hw, if_true]
        refine .inl (he ρ a w _ Q (hopnd hall) (hi.hr.within hwi) (by rw [hnx]; exact hi.free) fun v' ρ' w' hv hr hf hg => ?_)
        exact go _ _ _ _ _ _ _ (hi.eff hst hids hok hr0 htT hno hE hc hU hne hal hnx hwi hq2 hq3 hv hr hf hg)
      | pure => exact absurd ((hok t htT).kind hE) (by rw [hc]; simp)
      | read => exact absurd ((hok t htT).kind hE) (by rw [hc]; simp)
      | alloc id b => exact absurd ((hok t htT).kind hE) (by rw [hc]; simp)
    | false =>
      cases hc : t.cls with
      | skip =>
        rw [hc] at hok'; obtain ⟨hw, hv, hp⟩ := hok'
        simp only [want_at hseen hw, Bool.false_eq_true, if_false]
        exact go _ _ _ _ _ _ _ (hi.still hst hr0 htT hno hE (by rw [hc]; simp) hi.hr (Ext.refl _ _ _) (by rw [hv]; exact VR.undef P ρ))
      | eff => rw [hc] at hok'; rw [hok'.2.2.1] at hE; cases hE
      | pure =>
        rw [hc] at hok'; obtain ⟨hw, hall, hst', hp⟩ := hok'
        simp only [want_at hseen hw, if_true]
        exact .inl (hst' p ρ a w _ Q (hopnd hall) hi.hr fun v' w' hv hr he => go _ _ _ _ _ _ _ (hi.still hst hr0 htT hno hE (by rw [hc]; simp) hr he hv))
      | read =>
        rw [hc] at hok'; obtain ⟨hw, hall, hp⟩ := hok'
        simp only [want_at hseen hw, if_true]
        obtain ⟨m, hm, hs1⟩ := hrd t htT hc T1 T2 hi.cut hi.last
          (fun u hu hE' => by
            cases hm : am t.i u.i with
            | false => rfl
            | true => exact absurd (anc_done hcl (ham _ _ hm) (hcl _ (hi.done u hu (.inl hE')))) hno)
          (fun u hu hE' => by
            cases hm : am u.i t.i with
            | false => rfl
            | true => exact absurd (anc_done hcl (ham _ _ hm) hd) (hi.open_ u hu hE'))
        have hwi : Within m p := fun i b h => (hm i b h).elim (fun h => hi.pin i b (by rw [hi.base]; exact h)) fun ⟨u, hu, hc, ha⟩ => hi.pal u i b hu hc (anc_done hcl (ham _ _ ha) hd)
        exact .inl (hs1.more hwi ρ a w _ Q (hopnd hall) hi.hr fun v' w' hv hr he => go _ _ _ _ _ _ _ (hi.still hst hr0 htT hno hE (by rw [hc]; simp) hr he hv))
      | alloc id b =>
        rw [hc] at hok'; obtain ⟨hw, hall, hal, ⟨mk, hv, hA⟩, hp⟩ := hok'
        simp only [want_at hseen hw, if_true]
        have ht2 : t ∈ T2 := by
          have := htT; rw [hi.cut] at this
          exact (List.mem_append.1 this).resolve_left fun h => hno (hi.done t h (.inr hal))
        refine .inl (hA ρ p a w id _ Q (hopnd hall) hi.hr (hi.un t id b ht2 hc hno) fun v' f w' hv' hr he => ?_)
        exact go _ _ _ _ _ _ _ (hi.alloc hst hids hr0 ht2 hno hE hc hr he (hv ▸ hv'))
end

/-- a region, in whichever order -/
theorem ARun.region_any {P : Program} {k id : Nat} {ops : Array Oper} (hmo : P.follows .mixedOrders = true) {s : St} {nA : Nat} {T : List Tk} {e' : Env} {M' : Mem}
    (hst : Static P k ops T) (hids : ∀ t u i b b', t ∈ T → u ∈ T → t.cls = .alloc i b → u.cls = .alloc i b' → t.i = u.i) (hres : ∀ t i b, t ∈ T → t.cls = .alloc i b → s.mem.next ≤ i ∧ i < s.mem.next + nA)
    (hok : ∀ t, t ∈ T → t.Ok P ops) (hch : Chain T s.env (s.mem.bump nA) e' M') {am : Nat → Nat → Bool} (ham : ∀ i j, am i j = true → Anc ops i j) (hrd : Reads P (s.mem.bump nA) T am) :
    ARun P k (.region id ops true) s .normal ⟨e', M'⟩ := by
  intro ρ a w hc
  refine wp_region_any hmo ?_
  have hw' : ∀ {ρ m}, HR P ρ m w → HR P ρ m { w with drawn := w.drawn + 1 } := fun h => ⟨fun i b hi => let ⟨f, hf, ho⟩ := h.one i b hi; ⟨f, hf, ⟨ho.elem, ho.room, ho.row⟩⟩, h.apart⟩
  have hres' : ∀ t i b, t ∈ T → t.cls = .alloc i b → ρ i = none := fun t i b ht hcl => hc.free i (hres t i b ht hcl).1
  refine AX.region_any (ρ0 := ρ) (w0 := w) (M0 := s.mem.bump nA) hst hids hok hch ham hrd hc.hr ?_ ops.size (Array.replicate ops.size false) a _ [] T ρ s.mem.get (s.mem.bump nA) (by simp) ?_ ?_ ?_
  · intro ρ' a' w' hc' he hk hn
    refine ⟨rfl, ρ', hc', he, fun i hi h => hk i (by have : i < s.mem.next := hi; show i < s.mem.next + nA; omega) h fun t b ht hcl => ?_, by have : s.mem.next + nA ≤ M'.next := hn; show s.mem.next ≤ M'.next; omega⟩
    have := (hres t i b ht hcl).1; omega
  · intro j hj
    by_cases hlt : j < ops.size <;> simp [hlt] at hj
  · exact Nat.le_trans List.countP_le_length (Nat.le_of_eq hst.len)
  · exact {
      cut := rfl
      last := .inl rfl
      base := rfl
      done := by simp
      open_ := fun t ht _ h => by by_cases hlt : t.i < ops.size <;> simp [hlt] at h
      hr := hw' hc.hr
      free := fun i hi => hc.free i (by have : s.mem.next + nA ≤ i := hi; omega)
      pin := fun i b h => h
      pal := fun t i b ht hcl h => by by_cases hlt : t.i < ops.size <;> simp [hlt] at h
      pof := fun i b h => .inl h
      un := fun t i b ht hcl _ => hres' t i b ht hcl
      res := fun t i b ht hcl => ⟨(hres t i b ht hcl).2, by
        show s.mem.get i = none
        cases hg : s.mem.get i with
        | none => rfl
        | some b' => obtain ⟨f, hf, _⟩ := hc.hr.one i b' hg; rw [hres' t i b ht hcl] at hf; cases hf⟩
      tin := fun t s ht h => by by_cases hlt : t.i < ops.size <;> simp [hlt] at h
      tof := fun s v hg _ => hc.er s v hg
      ext := ⟨Sub.refl ρ, Nat.le_refl _, fun _ _ _ => rfl, fun i f h h' => (by rw [h] at h'; cases h'), fun i b' h => .inl ⟨b', h, fun x => x⟩, Io.refl _⟩
      keep := fun i _ h _ => h
      next := Nat.le_refl _
      defers := hc.defers
      size := hc.size }

/-- a region, in the one order -/
theorem seq_ops {P : Program} {k : Nat} {ops : Array Oper} {Q : Exit → Act → World → Prop} : ∀ (T : List Tk) (e : Env) (M : Mem) (e' : Env) (M' : Mem) (ρ : Emb) (a : Act) (w : World),
    Chain T e M e' M' → (∀ t, t ∈ T → t.Ok P ops) → (∀ t, t ∈ T → t.cls = .read → StillOk P t.o (aev t.env) t.pre.get t.v) → (∀ t s, t ∈ T → t.o.dst = some s → s < k) →
    (∀ A t C i b, T = A ++ t :: C → t.cls = .alloc i b → i < M.next ∧ ρ i = none ∧ ∀ u b', u ∈ C → u.cls ≠ .alloc i b') → Cur P k ρ ⟨e, M⟩ a w →
    (∀ ρ' a' w', Cur P k ρ' ⟨e', M'⟩ a' w' → Ext ρ M.get w ρ' M'.get w' → (∀ i, i < M.next → ρ i = none → (∀ t b, t ∈ T → t.cls ≠ .alloc i b) → ρ' i = none) → M.next ≤ M'.next → Q .normal a' w') →
    wpOps P ops Q (T.map (·.i)) a w := by
  intro T
  induction T with
  | nil =>
    intro e M e' M' ρ a w hch _ _ _ _ hc hQ
    obtain ⟨rfl, rfl⟩ := hch
    exact hQ ρ a w hc (Ext.refl _ _ _) (fun _ _ h _ => h) (Nat.le_refl _)
  | cons t T ih =>
    intro e M e' M' ρ a w hch hok hrd hdst hun hc hQ
    obtain ⟨h1, h2, h3⟩ := hch
    rw [List.map_cons, wpOps_cons]
    unfold wpOp
    simp only [(hok t List.mem_cons_self).op]
    have hok' := (hok t List.mem_cons_self).cls
    have hd : ∀ s, t.o.dst = some s → s < a.tmps.size := fun s h => hc.size ▸ hdst t s List.mem_cons_self h
    have hseen : ∀ s, looks ops t.o s → ∀ v, t.env.get s = some v → ∃ v', a.tmps[s]? = some v' ∧ VR P ρ v v' := fun s _ v hv => hc.er s v (h1 ▸ hv)
    have hopnd : (∀ x, x ∈ t.o.op.operands → ∃ v, aev t.env x = some v) → Opnds P ρ (aev t.env) t.o a := fun hall x hx =>
      let ⟨v, hv⟩ := hall x hx; ⟨v, hv, aev_eval (e := t.env) (h1 ▸ hc.er) hv⟩
    have more : ∀ (ρ' : Emb) v' w', VR P ρ' t.v v' → HR P ρ' t.post.get w' → Free ρ' t.post.next → Ext ρ M.get w ρ' t.post.get w' → M.next ≤ t.post.next →
        (∀ i, i < M.next → ρ i = none → (∀ b, t.cls ≠ .alloc i b) → ρ' i = none) → wpOps P ops Q (T.map (·.i)) (a.put t.o.dst v') w' := by
      intro ρ' v' w' hv hr hf he hn hk
      refine ih (e.put t.o.dst t.v) t.post e' M' ρ' _ w' h3 (fun u hu => hok u (List.mem_cons_of_mem _ hu)) (fun u hu => hrd u (List.mem_cons_of_mem _ hu)) (fun u s hu => hdst u s (List.mem_cons_of_mem _ hu)) ?_
        ⟨(hc.er.mono he.sub).put hd hv, hr, hf, (put_defers' _ _ _).trans hc.defers, (put_size _ _ _).trans hc.size⟩ ?_
      · intro A u C i b hT hcl
        obtain ⟨q1, q2, q3⟩ := hun (t :: A) u C i b (by rw [hT]; rfl) hcl
        refine ⟨by omega, hk i q1 q2 fun b' hcl' => ?_, q3⟩
        exact (hun [] t T i b' rfl hcl').2.2 u b (by rw [hT]; simp) hcl
      · intro ρ'' a'' w'' hc'' he'' hk'' hn''
        refine hQ ρ'' a'' w'' hc'' (he.trans hc.hr he'') (fun i hi hn0 hall => hk'' i (by omega) (hk i hi hn0 fun b => hall t b List.mem_cons_self) fun u b hu => hall u b (List.mem_cons_of_mem _ hu)) (by omega)
    have stay : t.post = M → ∀ v' w', VR P ρ t.v v' → HR P ρ M.get w' → Ext ρ M.get w ρ M.get w' → wpOps P ops Q (T.map (·.i)) (a.put t.o.dst v') w' := fun hp v' w' hv hr he =>
      more ρ v' w' hv (hp ▸ hr) (hp ▸ hc.free) (hp ▸ he) (by rw [hp]; exact Nat.le_refl _) fun _ _ h _ => h
    cases hcl : t.cls with
    | skip =>
      rw [hcl] at hok'; obtain ⟨hw, hv, hp⟩ := hok'
      simp only [want_at hseen hw, Bool.false_eq_true, if_false]
      exact stay (hp.trans h2) _ _ (by rw [hv]; exact VR.undef P ρ) hc.hr (Ext.refl _ _ _)
    | pure =>
      rw [hcl] at hok'; obtain ⟨hw, hall, hs, hp⟩ := hok'
      simp only [want_at hseen hw, if_true]
      exact .inl (hs M.get ρ a w _ Q (hopnd hall) hc.hr fun v' w' hv hr he => stay (hp.trans h2) v' w' hv hr he)
    | read =>
      rw [hcl] at hok'; obtain ⟨hw, hall, hp⟩ := hok'
      simp only [want_at hseen hw, if_true]
      have hs := hrd t List.mem_cons_self hcl
      rw [h2] at hs
      exact .inl (hs ρ a w _ Q (hopnd hall) hc.hr fun v' w' hv hr he => stay (hp.trans h2) v' w' hv hr he)
    | alloc id b =>
      rw [hcl] at hok'; obtain ⟨hw, hall, _, ⟨mk, hv, hA⟩, hp⟩ := hok'
      simp only [want_at hseen hw, if_true]
      obtain ⟨q1, q2, _⟩ := hun [] t T id b rfl hcl
      refine .inl (hA ρ M.get a w id _ Q (hopnd hall) hc.hr q2 fun v' f w' hv' hr he => ?_)
      have hg : t.post.get = updM M.get id b := funext fun i => by rw [hp, h2, Mem.get_put]; rfl
      have hnx : t.post.next = M.next := by rw [hp, h2]; rfl
      refine more (updE ρ id f) v' w' (hv ▸ hv') (hg ▸ hr) ?_ (hg ▸ he) (by rw [hnx]; exact Nat.le_refl _) ?_
      · intro i hi; rw [hnx] at hi; unfold updE; have : i ≠ id := by omega
        simp [this, hc.free i hi]
      · intro i hi hn0 hall; unfold updE
        have : i ≠ id := by rintro rfl; exact hall b hcl
        simp [this, hn0]
    | eff =>
      rw [hcl] at hok'; obtain ⟨hw, hall, _, he⟩ := hok'
      simp only [want_at hseen hw, if_true]
      refine .inl (he ρ a w _ Q (hopnd hall) (by rw [h2]; exact hc.hr) (by rw [h2]; exact hc.free) fun v' ρ' w' hv hr hf hg => ?_)
      rw [h2] at hg
      exact more ρ' v' w' hv hr hf hg.ext hg.next fun i hi hn0 _ => hg.keep i hi hn0

theorem ARun.region_seq {P : Program} {k id : Nat} {ops : Array Oper} {s : St} {nA : Nat} {T : List Tk} {e' : Env} {M' : Mem} (hord : T.map (·.i) = List.range ops.size)
    (hdst : ∀ t s, t ∈ T → t.o.dst = some s → s < k) (hids : ∀ A t C i b, T = A ++ t :: C → t.cls = .alloc i b → s.mem.next ≤ i ∧ i < s.mem.next + nA ∧ ∀ u b', u ∈ C → u.cls ≠ .alloc i b')
    (hok : ∀ t, t ∈ T → t.Ok P ops) (hch : Chain T s.env (s.mem.bump nA) e' M') (hrd : ∀ t, t ∈ T → t.cls = .read → StillOk P t.o (aev t.env) t.pre.get t.v) :
    ARun P k (.region id ops false) s .normal ⟨e', M'⟩ := by
  intro ρ a w hc
  refine wp_region ?_
  rw [← hord]
  refine seq_ops (k := k) T s.env (s.mem.bump nA) e' M' ρ a w hch hok hrd hdst ?_ ⟨hc.er, hc.hr, fun i hi => hc.free i (by have : s.mem.next + nA ≤ i := hi; omega), hc.defers, hc.size⟩ ?_
  · intro A t C i b hT hcl
    obtain ⟨q1, q2, q3⟩ := hids A t C i b hT hcl
    exact ⟨q2, hc.free i q1, q3⟩
  · intro ρ' a' w' hc' he hk hn
    refine ⟨rfl, ρ', hc', he, fun i hi h => hk i (by have : i < s.mem.next := hi; show i < s.mem.next + nA; omega) h fun t b ht hcl => ?_, by have : s.mem.next + nA ≤ M'.next := hn; show s.mem.next ≤ M'.next; omega⟩
    obtain ⟨A, C, hT⟩ := List.append_of_mem ht
    have := (hids A t C i b hT hcl).1; omega
end Go.Proofs.Ythheaehpnleiaaa.AX
