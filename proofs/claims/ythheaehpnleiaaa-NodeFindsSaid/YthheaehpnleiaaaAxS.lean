/- The layer, nineteenth part: a region's rule for the walk, in any order: the proof. -/
import Derived.Test.YthheaehpnleiaaaAxR
namespace Go.Proofs.Ythheaehpnleiaaa.AX
open Go
set_option linter.unusedVariables false
set_option linter.unusedSimpArgs false

def stB (B : Mem) : List Tk → Mem
  | [] => B
  | t :: T => stB (if isEff t.o then t.post else B) T
def stAl (al : List (Nat × Nat × Blk)) : List Tk → List (Nat × Nat × Blk)
  | [] => al
  | t :: T => stAl (if isEff t.o then [] else match t.cls with | .alloc id b => (t.i, id, b) :: al | _ => al) T
def stLog (B : Mem) (log : List (Nat × Mem)) : List Tk → List (Nat × Mem)
  | [] => log
  | t :: T => stLog (if isEff t.o then t.post else B) (if isEff t.o then (t.i, B) :: log else log) T
def stRl (rl : List Tk) : List Tk → List Tk
  | [] => rl
  | t :: T => stRl (match t.cls with | .read => t :: rl | _ => rl) T

theorem RdOk.split {P : Program} {A U : List (Nat × Nat)} : ∀ {T1 T2 : List Tk} {B : Mem} {al : List (Nat × Nat × Blk)} {log : List (Nat × Mem)} {rl : List Tk}, RdOk P A U (T1 ++ T2) B al log rl → RdOk P A U T2 (stB B T1) (stAl al T1) (stLog B log T1) (stRl rl T1)
  | [], _, _, _, _, _, h => h
  | t :: T1, T2, B, al, log, rl, h => RdOk.split (T1 := T1) h.2.2
theorem stB_append (T1 T2 : List Tk) : ∀ B, stB B (T1 ++ T2) = stB (stB B T1) T2 := by
  induction T1 with
  | nil => intro B; rfl
  | cons t T1 ih => intro B; exact ih _
theorem stB_noeff {T : List Tk} (h : ∀ t, t ∈ T → isEff t.o = false) : ∀ B, stB B T = B := by
  induction T with
  | nil => intro B; rfl
  | cons t T ih =>
    intro B
    simp only [stB, h t (by simp), Bool.false_eq_true, if_false]
    exact ih (fun u hu => h u (by simp [hu])) B
theorem stB_last {X : List Tk} (h : lastEff X) (B : Mem) : stB B X = bound B X := by
  rcases h with rfl | ⟨A, t, rfl, hE⟩
  · rfl
  · rw [bound_snoc, stB_append]
    simp [stB, hE]
theorem stAl_append (T1 T2 : List Tk) : ∀ al, stAl al (T1 ++ T2) = stAl (stAl al T1) T2 := by
  induction T1 with
  | nil => intro al; rfl
  | cons t T1 ih => intro al; exact ih _
theorem stAl_sub {T : List Tk} : ∀ {al : List (Nat × Nat × Blk)} {x : Nat × Nat × Blk}, x ∈ stAl al T → x ∈ al ∨ ∃ t, t ∈ T ∧ t.cls = .alloc x.2.1 x.2.2 ∧ t.i = x.1 := by
  induction T with
  | nil => intro al x h; exact .inl h
  | cons t T ih =>
    intro al x h
    rcases ih h with h | ⟨u, hu, hc⟩
    · cases hE : isEff t.o with
      | true => simp [hE] at h
      | false =>
        simp only [hE, Bool.false_eq_true, if_false] at h
        cases hc : t.cls with
        | alloc id b =>
          simp only [hc] at h
          rcases List.mem_cons.1 h with rfl | h
          · exact .inr ⟨t, by simp, hc, rfl⟩
          · exact .inl h
        | skip => simp only [hc] at h; exact .inl h
        | pure => simp only [hc] at h; exact .inl h
        | read => simp only [hc] at h; exact .inl h
        | eff => simp only [hc] at h; exact .inl h
    · exact .inr ⟨u, by simp [hu], hc⟩
theorem stLog_mem {T : List Tk} : ∀ {B : Mem} {log : List (Nat × Mem)} {x : Nat × Mem}, x ∈ log → x ∈ stLog B log T := by
  induction T with
  | nil => intro B log x h; exact h
  | cons t T ih =>
    intro B log x h
    refine ih ?_
    cases isEff t.o <;> simp [h]
theorem stLog_append (T1 T2 : List Tk) : ∀ B log, stLog B log (T1 ++ T2) = stLog (stB B T1) (stLog B log T1) T2 := by
  induction T1 with
  | nil => intro B log; rfl
  | cons t T1 ih => intro B log; exact ih _ _
theorem stLog_at {Z1 Z2 : List Tk} {e : Tk} (h : ∀ t, t ∈ Z1 → isEff t.o = false) (hE : isEff e.o = true) (B : Mem) (log : List (Nat × Mem)) : (e.i, B) ∈ stLog B log (Z1 ++ e :: Z2) := by
  rw [stLog_append, stB_noeff h]
  show _ ∈ stLog _ (if isEff e.o then (e.i, B) :: _ else _) Z2
  simp only [hE, if_true]
  exact stLog_mem (by simp)
theorem stRl_mem {T : List Tk} : ∀ {rl : List Tk} {x : Tk}, x ∈ rl → x ∈ stRl rl T := by
  induction T with
  | nil => intro rl x h; exact h
  | cons t T ih =>
    intro rl x h
    refine ih ?_
    cases t.cls <;> simp [h]
theorem stRl_at {T : List Tk} {t : Tk} (h : t.cls = .read) (rl : List Tk) : t ∈ stRl rl (t :: T) := by
  show t ∈ stRl (match t.cls with | .read => t :: rl | _ => rl) T
  rw [h]
  exact stRl_mem (by simp)
theorem withA_within {A : List (Nat × Nat)} {al : List (Nat × Nat × Blk)} {i : Nat} {m : Mm} : ∀ {x : Nat} {b : Blk}, withA A al i m x = some b → m x = some b ∨ ∃ j, (j, x, b) ∈ al ∧ inP A j i = true := by
  induction al with
  | nil => intro x b h; exact .inl h
  | cons p al ih =>
    intro x b h
    obtain ⟨j, id, c⟩ := p
    simp only [withA] at h
    cases hp : inP A j i with
    | true =>
      simp only [hp, cond_true, updM] at h
      by_cases hx : x = id
      · subst hx; simp at h; subst h; exact .inr ⟨j, by simp, hp⟩
      · simp only [hx, if_false] at h; exact (ih h).imp (fun h => h) fun ⟨j', h1, h2⟩ => ⟨j', by simp [h1], h2⟩
    | false => simp only [hp, cond_false] at h; exact (ih h).imp (fun h => h) fun ⟨j', h1, h2⟩ => ⟨j', by simp [h1], h2⟩
theorem inP_mem {U : List (Nat × Nat)} {i j : Nat} (h : inP U i j = true) : (i, j) ∈ U := by
  unfold inP at h
  rw [List.any_eq_true] at h
  obtain ⟨p, hp, hc⟩ := h
  rw [Bool.and_eq_true, beq_iff, beq_iff] at hc
  have h1 : p.1 = i := by simpa using hc.1
  have h2 : p.2 = j := by simpa using hc.2
  rw [← h1, ← h2]; exact hp

theorem reads_of {P : Program} {k : Nat} {ops : Array Oper} {A U : List (Nat × Nat)} {T : List Tk} {M0 : Mem} {am : Nat → Nat → Bool} (hst : Static P k ops T) (ham : ∀ u t, u ∈ T → t ∈ T → am u.i t.i = true → Anc ops u.i t.i) (hA : ∀ i j, inP A i j = true → am i j = true)
    (hU : ∀ X t C, T = X ++ t :: C → ∀ u, u ∈ X → (t.cls = .read → isEff u.o = true → inP U t.i u.i = true ∨ am u.i t.i = true) ∧ (u.cls = .read → isEff t.o = true → inP U u.i t.i = true ∨ am u.i t.i = true))
    (hne : ∀ t, t ∈ T → t.cls = .read → isEff t.o = false) (hrd : RdOk P A U T M0 [] [] []) : Reads P M0 T am := by
  intro t ht hc X Y hXY hlast hx hy
  rcases (show t ∈ X ++ Y by rw [← hXY]; exact ht) |> List.mem_append.1 with htX | htY
  · -- the read stands ahead of the bound
    obtain ⟨X1, X2, hX⟩ := List.append_of_mem htX
    rcases hlast with h0 | ⟨A', e, hAe, hE⟩
    · rw [h0] at htX; cases htX
    · -- X2 ends with e
      have hte : t ≠ e := by rintro rfl; rw [hne t ht hc] at hE; cases hE
      obtain ⟨X3, hX3⟩ : ∃ X3, X2 = X3 ++ [e] := by
        have h1 : X1 ++ t :: X2 = A' ++ [e] := by rw [← hX, hAe]
        rcases List.eq_nil_or_concat X2 with h2 | ⟨X3, z, h2⟩
        · subst h2
          have := congrArg List.getLast? h1
          simp at this
          exact absurd this hte
        · have h2' : X2 = X3 ++ [z] := by simpa using h2
          refine ⟨X3, ?_⟩
          rw [h2'] at h1 ⊢
          have h3 : (X1 ++ t :: X3) ++ [z] = A' ++ [e] := by simpa using h1
          rw [(List.append_inj' h3 rfl).2]
      have hTe : T = (X1 ++ t :: X3) ++ e :: Y := by rw [hXY, hX, hX3]; simp
      have hbound : bound M0 X = e.post := by rw [hAe, bound_snoc]
      have hr2 : RdOk P A U ((X1 ++ t :: X3) ++ e :: Y) M0 [] [] [] := hTe ▸ hrd
      have hr3 := hr2.split.2.1 hE t (by
        have : stRl [] (X1 ++ t :: X3) = stRl (stRl [] X1) (t :: X3) := by
          clear hr2 hrd hTe hX
          have : ∀ (T1 T2 : List Tk) rl, stRl rl (T1 ++ T2) = stRl (stRl rl T1) T2 := by
            intro T1 T2
            induction T1 with
            | nil => intro rl; rfl
            | cons t T1 ih => intro rl; exact ih _
          exact this _ _ _
        rw [this]; exact stRl_at hc _) (by
        rcases (hU _ e Y hTe t (by simp)).2 hc hE with h | h
        · exact h
        · exact absurd (hx e (by rw [hAe]; simp) hE) (by rw [h]; simp))
      refine ⟨e.post.get, fun i b h => .inl (by rw [hbound]; exact h), hr3⟩
  · obtain ⟨Z, T2, hY⟩ := List.append_of_mem htY
    have hTt : T = (X ++ Z) ++ t :: T2 := by rw [hXY, hY]; simp
    have hr2 : RdOk P A U ((X ++ Z) ++ t :: T2) M0 [] [] [] := hTt ▸ hrd
    obtain ⟨f1, f2⟩ := hr2.split.1 hc
    have hB : stB M0 X = bound M0 X := stB_last hlast M0
    by_cases hz : ∃ e, e ∈ Z ∧ isEff e.o = true
    · obtain ⟨Z1, e, Z2, hZ, hE, hZ1⟩ := first_of (T := Z) (p := fun t => isEff t.o = true) hz
      have hZ1' : ∀ u, u ∈ Z1 → isEff u.o = false := fun u hu => by simpa using hZ1 u hu
      have hlog : (e.i, bound M0 X) ∈ stLog M0 [] (X ++ Z) := by
        rw [stLog_append, hB, hZ]
        exact stLog_at hZ1' hE _ _
      have heX : e ∈ X ++ Z := by rw [hZ]; simp
      have hu : inP U t.i e.i = true := by
        rcases (hU _ t T2 hTt e heX).1 hc hE with h | h
        · exact h
        · exact absurd (hy e (by rw [hY, hZ]; simp) hE) (by rw [h]; simp)
      refine ⟨_, fun i b h => ?_, f2 _ hlog hu⟩
      rcases withA_within h with h | ⟨j, hj, hp⟩
      · exact .inl h
      · refine .inr ?_
        rw [hZ, ← List.append_assoc, stAl_append] at hj
        have hj' : (j, i, b) ∈ stAl [] Z2 := by
          have : stAl (stAl [] (X ++ Z1)) (e :: Z2) = stAl [] Z2 := by simp [stAl, hE]
          rw [this] at hj; exact hj
        rcases stAl_sub hj' with h | ⟨u, hu1, hu2, hu3⟩
        · cases h
        · exact ⟨u, by rw [hY, hZ]; simp [hu1], hu2, by rw [hu3]; exact hA _ _ hp⟩
    · have hZ : ∀ u, u ∈ Z → isEff u.o = false := fun u hu => by
        cases h : isEff u.o with
        | false => rfl
        | true => exact absurd ⟨u, hu, h⟩ hz
      have hBt : stB M0 (X ++ Z) = bound M0 X := by rw [stB_append, hB, stB_noeff hZ]
      rw [hBt] at f1
      refine ⟨_, fun i b h => ?_, f1⟩
      rcases withA_within h with h | ⟨j, hj, hp⟩
      · exact .inl h
      · refine .inr ?_
        rw [stAl_append] at hj
        have hX0 : stAl [] X = [] := by
          rcases hlast with rfl | ⟨A', e, rfl, hE⟩
          · rfl
          · rw [stAl_append]; simp [stAl, hE]
        rw [hX0] at hj
        rcases stAl_sub hj with h | ⟨u, hu1, hu2, hu3⟩
        · cases h
        · exact ⟨u, by rw [hY]; simp [hu1], hu2, by rw [hu3]; exact hA _ _ hp⟩

theorem AWP.regionD {P : Program} (hmo : P.follows .mixedOrders = true) {k id : Nat} {ops : Array Oper} (ord msk : List Nat) (A U : List (Nat × Nat)) {s : St} {Q : Exit → St → Prop} (hreg : okReg P k ops ord msk A U = true)
    (h : wpD P ops k s.mem.next A U (ord.map fun i => (i, opAt ops i)) 0 s.env (s.mem.bump (nAl P (ord.map fun i => opAt ops i))) (s.mem.bump (nAl P (ord.map fun i => opAt ops i))) [] [] [] fun e M => Q .normal ⟨e, M⟩) : AWP P k (.region id ops true) s Q := by
  simp only [okReg, Bool.and_eq_true] at hreg
  obtain ⟨⟨⟨⟨⟨⟨⟨hlen, hall⟩, hlt⟩, htopo⟩, hord⟩, hmask⟩, hA⟩, hdst⟩ := hreg
  rw [beq_iff] at hlen
  have hlen : ord.length = ops.size := by simpa using hlen
  have hlt' : ∀ i, i ∈ ord → i < ops.size := fun i hi => by simpa using List.all_eq_true.1 hlt i hi
  have hat : ∀ i, i ∈ ord → ops[i]? = some (opAt ops i) := fun i hi => by
    have := hlt' i hi
    simp [opAt, this]
  obtain ⟨T, e', M', q1, q2, q3, q4, q5, q7, q6⟩ := wpD_trace (ord.map fun i => (i, opAt ops i)) 0 s.env _ _ [] [] [] (fun p hp => by
    rw [List.mem_map] at hp
    obtain ⟨i, hi, rfl⟩ := hp
    exact hat i hi) h
  have q1' : T.map (·.i) = ord := by rw [q1, List.map_map]; exact List.map_id ord
  have hTi : ∀ t, t ∈ T → t.i ∈ ord := fun t ht => by rw [← q1']; exact List.mem_map.2 ⟨t, ht, rfl⟩
  have hTo : ∀ t, t ∈ T → opAt ops t.i = t.o := fun t ht => by
    have h1 := (q3 t ht).op
    have h2 := hat t.i (hTi t ht)
    rw [h1] at h2; exact (Option.some.inj h2).symm
  have hTs : ∀ X t C, T = X ++ t :: C → ord = X.map (·.i) ++ t.i :: C.map (·.i) := fun X t C hT => by rw [← q1', hT]; simp
  have hpair : ∀ X t C, T = X ++ t :: C → ∀ u, u ∈ X → okPair P ops msk U u.i t.i = true := fun X t C hT u hu =>
    okOrd_spec hord _ _ _ (hTs X t C hT) u.i (List.mem_map.2 ⟨u, hu, rfl⟩)
  have hpT : ∀ X t C, T = X ++ t :: C → ∀ u, u ∈ X → u ∈ T ∧ t ∈ T := fun X t C hT u hu => ⟨by rw [hT]; simp [hu], by rw [hT]; simp⟩
  have hanc : ∀ u t, u ∈ T → t ∈ T → amOf msk u.i t.i = true → Anc ops u.i t.i := fun u t hu ht h =>
    okMask_spec hmask t.i (hlt' _ (hTi t ht)) u.i (hlt' _ (hTi u hu)) h
  have hlooks : ∀ o s, looks ops o s → s ∈ o.looksAt ops := fun o s hl => by
    unfold Oper.looksAt
    rcases hl with hl | ⟨j, want, hg, hd⟩
    · exact List.mem_append_left _ (List.mem_filterMap.2 ⟨.tmp s, by simpa using hl, rfl⟩)
    · refine List.mem_append_right _ ?_
      simp only [hg, hd, Option.toList, List.mem_singleton]
  have look1 : ∀ u t, u ∈ T → t ∈ T → lookOk ops msk u.i t.i = true → ∀ s, u.o.dst = some s → looks ops t.o s → Anc ops u.i t.i ∨ Anc ops t.i u.i := fun u t hu ht h s hd hl => by
    unfold lookOk at h
    rw [hTo u hu, hTo t ht, hd] at h
    simp only [Bool.or_eq_true, Bool.not_eq_true'] at h
    rcases h with (h | h) | h
    · have := hlooks t.o s hl
      rw [← List.contains_iff_mem] at this
      rw [this] at h; cases h
    · exact .inl (hanc u t hu ht h)
    · exact .inr (hanc t u ht hu h)
  have hst : Static P k ops T := {
    len := by rw [← hlen, ← q1', List.length_map]
    nodup := fun X t C hT u hu => by
      have h := hpair X t C hT u hu
      simp only [okPair, Bool.and_eq_true, Bool.not_eq_true', beq_iff, decide_eq_false_iff_not] at h
      exact h.1.1.1.1.1.1
    all := fun i hi => by
      have := List.all_eq_true.1 hall i (List.mem_range.2 hi)
      rw [List.contains_iff_mem, ← q1', List.mem_map] at this
      obtain ⟨t, h1, h2⟩ := this
      exact ⟨t, h1, h2⟩
    lt := fun t ht => hlt' _ (hTi t ht)
    topo := fun X t C hT d hd => by
      have htT : t ∈ T := by rw [hT]; simp
      have hdd : d ∈ directs (opAt ops t.i) := by
        rw [hTo t htT]
        obtain ⟨o, ho, e, he, hb, rfl⟩ := hd
        rw [(q3 t htT).op] at ho; cases ho
        unfold directs
        exact List.mem_map.2 ⟨e, List.mem_filter.2 ⟨by simpa using he, hb⟩, rfl⟩
      rcases okTopo_spec htopo _ _ _ (hTs X t C hT) d hdd with h | h
      · cases h
      · obtain ⟨u, hu, hui⟩ := List.mem_map.1 h
        exact ⟨u, hu, hui⟩
    dst := fun t s ht hs => by
      have := List.all_eq_true.1 hdst t.i (hTi t ht)
      rw [hTo t ht] at this
      exact dstLt_spec this s hs
    one := fun X t C hT u hu s hs hs' => by
      have h := hpair X t C hT u hu
      simp only [okPair, Bool.and_eq_true] at h
      have h2 := h.1.1.1.1.1.2
      obtain ⟨huT, htT⟩ := hpT X t C hT u hu
      rw [hTo u huT, hTo t htT] at h2
      simp [dstsDiffer, hs, hs', beq_iff] at h2
    look := fun t u ht hu hne s hd hl => by
      obtain ⟨X, C, hT⟩ := List.append_of_mem ht
      have hu' := hu
      rw [hT] at hu'
      rcases List.mem_append.1 hu' with h | h
      · have hp := hpair X t C hT u h
        simp only [okPair, Bool.and_eq_true] at hp
        exact look1 u t hu ht hp.1.1.1.2 s hd hl
      · rcases List.mem_cons.1 h with rfl | h
        · exact absurd rfl hne
        · obtain ⟨C1, C2, hC⟩ := List.append_of_mem h
          have hp := hpair (X ++ t :: C1) u C2 (by rw [hT, hC]; simp) t (by simp)
          simp only [okPair, Bool.and_eq_true] at hp
          exact look1 u t hu ht hp.1.1.2 s hd hl
    effs := fun X t C hT hE u hu hh => by
      have h := hpair X t C hT u hu
      simp only [okPair, Bool.and_eq_true] at h
      have h2 := h.1.1.1.1.2
      obtain ⟨huT, htT⟩ := hpT X t C hT u hu
      rw [hTo u huT, hTo t htT, hE] at h2
      simp only [Bool.not_true, Bool.false_or, Bool.or_eq_true, Bool.not_eq_true', Bool.or_eq_false_iff] at h2
      rcases h2 with h2 | h2
      · rcases hh with h | h
        · rw [h2.1] at h; cases h
        · rw [h2.2] at h; cases h
      · exact hanc u t huT htT h2 }
  have hcr : ∀ t, t ∈ T → t.cls = .read → isEff t.o = false := fun t ht hc => by
    cases h : isEff t.o with
    | false => rfl
    | true => rcases (q3 t ht).kind h with h | h <;> rw [h] at hc <;> cases hc
  have hrdk : ∀ t, t ∈ T → t.cls = .read → isRd P t.o = true := fun t ht hc => by unfold isRd; rw [q7 t ht hc]
  have hU : ∀ X t C, T = X ++ t :: C → ∀ u, u ∈ X → (t.cls = .read → isEff u.o = true → inP U t.i u.i = true ∨ amOf msk u.i t.i = true) ∧ (u.cls = .read → isEff t.o = true → inP U u.i t.i = true ∨ amOf msk u.i t.i = true) := by
    intro X t C hT u hu
    have h := hpair X t C hT u hu
    simp only [okPair, Bool.and_eq_true] at h
    obtain ⟨huT, htT⟩ := hpT X t C hT u hu
    obtain ⟨⟨_, h1⟩, h2⟩ := h
    rw [hTo u huT, hTo t htT] at h1 h2
    refine ⟨fun hc hE => ?_, fun hc hE => ?_⟩
    · rw [hE, hrdk t htT hc] at h2
      simpa using h2
    · rw [hE, hrdk u huT hc] at h1
      simpa using h1
  have hAm : ∀ i j, inP A i j = true → amOf msk i j = true := fun i j h => List.all_eq_true.1 hA (i, j) (inP_mem h)
  have hreads := reads_of hst hanc hAm hU hcr q4
  have hids2 : ∀ t u i b b', t ∈ T → u ∈ T → t.cls = .alloc i b → u.cls = .alloc i b' → t.i = u.i := by
    intro t u i b b' ht hu hc hc'
    obtain ⟨X, C, hT⟩ := List.append_of_mem ht
    have hu' := hu
    rw [hT] at hu'
    rcases List.mem_append.1 hu' with h | h
    · obtain ⟨X1, X2, hX⟩ := List.append_of_mem h
      exact absurd hc ((q5 X1 u (X2 ++ t :: C) i b' (by rw [hT, hX]; simp) hc').2.2 t b (by simp))
    · rcases List.mem_cons.1 h with rfl | h
      · rfl
      · exact absurd hc' ((q5 X t C i b hT hc).2.2 u b' h)
  have hmap : (ord.map fun i => (i, opAt ops i)).map (·.2) = ord.map fun i => opAt ops i := by rw [List.map_map]; rfl
  rw [hmap] at q5
  refine ⟨.normal, ⟨e', M'⟩, ARun.region_any hmo (nA := nAl P (ord.map fun i => opAt ops i)) hst hids2 (fun t i b ht hc => ?_) q3 q2 (am := fun i j => amOf msk i j && decide (i < ops.size) && decide (j < ops.size)) (fun i j h => ?_) ?_, q6⟩
  · obtain ⟨X, C, hT⟩ := List.append_of_mem ht
    have := q5 X t C i b hT hc
    exact ⟨this.1, this.2.1⟩
  · simp only [Bool.and_eq_true, decide_eq_true_eq] at h
    exact okMask_spec hmask j h.2 i h.1.2 h.1.1
  · intro t ht hc X Y hXY hlast hx hy
    have hlt2 : ∀ u, u ∈ T → u.i < ops.size := fun u hu => hlt' _ (hTi u hu)
    have hX : ∀ u, u ∈ X → u ∈ T := fun u hu => by rw [hXY]; simp [hu]
    have hY : ∀ u, u ∈ Y → u ∈ T := fun u hu => by rw [hXY]; simp [hu]
    obtain ⟨m, h1, h2⟩ := hreads t ht hc X Y hXY hlast (fun u hu hE => by have := hx u hu hE; simpa [hlt2 t ht, hlt2 u (hX u hu)] using this) (fun u hu hE => by have := hy u hu hE; simpa [hlt2 t ht, hlt2 u (hY u hu)] using this)
    refine ⟨m, fun i b h => (h1 i b h).imp (fun h => h) fun ⟨u, hu, hcu, ha⟩ => ⟨u, hu, hcu, ?_⟩, h2⟩
    simp [ha, hlt2 t ht, hlt2 u (hY u hu)]
end Go.Proofs.Ythheaehpnleiaaa.AX
