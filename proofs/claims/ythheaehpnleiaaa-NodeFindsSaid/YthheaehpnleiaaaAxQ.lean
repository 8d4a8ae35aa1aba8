/- The layer, seventeenth part: a region's rule for the walk: in the one order, and in any. -/
import Derived.Test.YthheaehpnleiaaaAxP
namespace Go.Proofs.Ythheaehpnleiaaa.AX
open Go
set_option linter.unusedVariables false
set_option linter.unusedSimpArgs false

def dstLt (k : Nat) : Option Nat → Bool
  | none => true
  | some d => decide (d < k)
theorem dstLt_spec {k : Nat} {o : Option Nat} (h : dstLt k o = true) (s : Nat) (hs : o = some s) : s < k := by subst hs; simpa [dstLt] using h

def nAl (P : Program) : List Oper → Nat
  | [] => 0
  | o :: l => match kindOf P o with
    | .alloc => nAl P l + 1
    | _ => nAl P l

/-- operations in the text's order -/
def wpS (P : Program) (ops : Array Oper) (k n0 : Nat) : List Oper → Nat → Env → Mem → (Env → Mem → Prop) → Prop
  | [], _, e, M, K => K e M
  | o :: l, r, e, M, K => bif dstLt k o.dst then match wantA ops e o with
    | none => False
    | some false => match kindOf P o with
      | .alloc => wpS P ops k n0 l (r + 1) (e.put o.dst undef) M K
      | _ => wpS P ops k n0 l r (e.put o.dst undef) M K
    | some true => match kindOf P o with
      | .pure => match pureV P (aev e) o with
        | some v => wpS P ops k n0 l r (e.put o.dst v) M K
        | none => False
      | .read => match readV P (aev e) M.get o with
        | some v => wpS P ops k n0 l r (e.put o.dst v) M K
        | none => False
      | .alloc => match allocA P (aev e) o.op with
        | some (b, mk) => wpS P ops k n0 l (r + 1) (e.put o.dst (mk (n0 + r))) (M.put (n0 + r) b) K
        | none => False
      | .eff => match effV P (aev e) M o with
        | some (v, M') => wpS P ops k n0 l r (e.put o.dst v) M' K
        | none => False
      | .call => match callOf P (aev e) o with
        | some (f, args) => ∃ v M', ACall P f args M v M' ∧ wpS P ops k n0 l r (e.put o.dst v) M' K
        | none => ∃ v M', Known (aev e) o ∧ EffOk P o (aev e) M v M' ∧ wpS P ops k n0 l r (e.put o.dst v) M' K
    else False

theorem kind_eff {P : Program} {o : Oper} : isEff o = (kindOf P o == .eff || kindOf P o == .call) := by
  obtain ⟨dst, op, type, pos, after, guard⟩ := o
  cases op <;> simp only [isEff, kindOf] <;> try rfl
  case convert src dst x => split <;> rfl
  case slice t x lo hi mx => split <;> rfl
  case call c =>
    cases c.callee <;> simp only <;> try rfl
    rename_i b
    cases b <;> rfl
theorem kind_alloc {P : Program} {o : Oper} : isAlloc P o = (kindOf P o == .alloc) := by
  obtain ⟨dst, op, type, pos, after, guard⟩ := o
  cases op <;> simp only [isAlloc, kindOf] <;> try rfl
  case convert src dst x =>
    generalize P.underlying src = a
    generalize P.underlying dst = b
    rcases a with _ | a <;> rcases b with _ | b <;> (try cases a) <;> (try cases b) <;> rfl
  case slice t x lo hi mx => split <;> rfl
  case call c =>
    cases c.callee <;> simp only <;> try rfl
    rename_i b
    cases b <;> rfl

/-- the ids of what is made, in their order -/
def Ids (T : List Tk) (lo hi : Nat) : Prop := ∀ A t C i b, T = A ++ t :: C → t.cls = .alloc i b → lo ≤ i ∧ i < hi ∧ ∀ u b', u ∈ C → u.cls ≠ .alloc i b'
theorem Ids.nil (lo hi : Nat) : Ids [] lo hi := fun A t C i b h => by simp at h
theorem Ids.skip {T : List Tk} {lo hi lo' hi' : Nat} (h : Ids T lo hi) (h1 : lo' ≤ lo) (h2 : hi ≤ hi') {t : Tk} (hc : ∀ i b, t.cls ≠ .alloc i b) : Ids (t :: T) lo' hi' := by
  intro A u C i b hT hu
  cases A with
  | nil => simp at hT; obtain ⟨rfl, rfl⟩ := hT; exact absurd hu (hc i b)
  | cons a A => simp at hT; obtain ⟨rfl, hT⟩ := hT; obtain ⟨q1, q2, q3⟩ := h A u C i b hT hu; exact ⟨by omega, by omega, q3⟩
theorem Ids.alloc {T : List Tk} {n hi : Nat} (h : Ids T (n + 1) hi) (hlt : n < hi) {t : Tk} {b : Blk} (hc : t.cls = .alloc n b) : Ids (t :: T) n hi := by
  intro A u C i c hT hu
  cases A with
  | nil =>
    simp at hT; obtain ⟨rfl, rfl⟩ := hT
    rw [hc] at hu; cases hu
    refine ⟨Nat.le_refl _, hlt, fun x b' hx hcl => ?_⟩
    obtain ⟨A', C', rfl⟩ := List.append_of_mem hx
    have := (h A' x C' _ b' rfl hcl).1
    omega
  | cons a A => simp at hT; obtain ⟨rfl, hT⟩ := hT; obtain ⟨q1, q2, q3⟩ := h A u C i c hT hu; exact ⟨by omega, q2, q3⟩

theorem wpS_trace {P : Program} {ops : Array Oper} {k n0 : Nat} {K : Env → Mem → Prop} : ∀ (l : List Oper) (r : Nat) (e : Env) (M : Mem) (s : Nat), (∀ j o, l[j]? = some o → ops[s + j]? = some o) → wpS P ops k n0 l r e M K →
    ∃ T e' M', T.map (·.i) = List.range' s l.length ∧ Chain T e M e' M' ∧ (∀ t, t ∈ T → t.Ok P ops) ∧ (∀ t, t ∈ T → t.cls = .read → StillOk P t.o (aev t.env) t.pre.get t.v) ∧ (∀ t d, t ∈ T → t.o.dst = some d → d < k) ∧ Ids T (n0 + r) (n0 + r + nAl P l) ∧ K e' M' := by
  intro l
  induction l with
  | nil => intro r e M s _ h; exact ⟨[], e, M, rfl, ⟨rfl, rfl⟩, by simp, by simp, by simp, Ids.nil _ _, h⟩
  | cons o l ih =>
    intro r e M s hops h
    have ho : ops[s]? = some o := hops 0 o rfl
    have hops' : ∀ j o, l[j]? = some o → ops[s + 1 + j]? = some o := fun j o' hj => by have := hops (j + 1) o' (by simpa using hj); rwa [show s + (j + 1) = s + 1 + j by omega] at this
    simp only [wpS] at h
    cases hd : dstLt k o.dst with
    | false => simp [hd] at h
    | true =>
      simp only [hd, cond_true] at h
      have hke := kind_eff (P := P) (o := o)
      have hka := kind_alloc (P := P) (o := o)
      -- one step more
      have more : ∀ (cls : Cls) (v : Value) (M₁ : Mem) (r' : Nat), Tk.Ok P ops ⟨s, o, e, M, cls, v, M₁⟩ → (cls = .read → StillOk P o (aev e) M.get v) → (∀ hi T, Ids T (n0 + r') hi → n0 + r' + nAl P l ≤ hi → hi = n0 + r + nAl P (o :: l) → Ids (⟨s, o, e, M, cls, v, M₁⟩ :: T) (n0 + r) hi) →
          (n0 + r' + nAl P l = n0 + r + nAl P (o :: l) ∨ n0 + r' + nAl P l + 1 = n0 + r + nAl P (o :: l) + 1) → wpS P ops k n0 l r' (e.put o.dst v) M₁ K →
          ∃ T e' M', T.map (·.i) = List.range' s (o :: l).length ∧ Chain T e M e' M' ∧ (∀ t, t ∈ T → t.Ok P ops) ∧ (∀ t, t ∈ T → t.cls = .read → StillOk P t.o (aev t.env) t.pre.get t.v) ∧ (∀ t d, t ∈ T → t.o.dst = some d → d < k) ∧ Ids T (n0 + r) (n0 + r + nAl P (o :: l)) ∧ K e' M' := by
        intro cls v M₁ r' hok hrd hids hr' hw
        obtain ⟨T, e', M', q1, q2, q3, q4, q5, q6, q7⟩ := ih r' _ M₁ (s + 1) hops' hw
        refine ⟨⟨s, o, e, M, cls, v, M₁⟩ :: T, e', M', by simp [q1, List.range'_succ], ⟨rfl, rfl, q2⟩, ?_, ?_, ?_, ?_, q7⟩
        · intro t ht; rcases List.mem_cons.1 ht with rfl | ht; exact hok; exact q3 t ht
        · intro t ht hc; rcases List.mem_cons.1 ht with rfl | ht; exact hrd hc; exact q4 t ht hc
        · intro t d ht hc; rcases List.mem_cons.1 ht with rfl | ht; exact dstLt_spec hd d hc; exact q5 t d ht hc
        · refine hids _ T ?_ ?_ rfl
          · have : n0 + r' + nAl P l = n0 + r + nAl P (o :: l) := by omega
            rw [← this]; exact q6
          · omega
      cases hw : wantA ops e o with
      | none => simp [hw] at h
      | some b =>
        simp only [hw] at h
        cases b with
        | false =>
          simp only at h
          have hok : Tk.Ok P ops ⟨s, o, e, M, .skip, undef, M⟩ := ⟨ho, fun _ => .inl rfl, hw, rfl, rfl⟩
          cases hk : kindOf P o with
          | alloc =>
            simp only [hk] at h
            exact more .skip undef M (r + 1) hok (fun h => by cases h) (fun hi T hI _ _ => hI.skip (by omega) (Nat.le_refl _) (by simp)) (by left; simp only [nAl, hk]; omega) h
          | _ =>
            simp only [hk] at h
            exact more .skip undef M r hok (fun h => by cases h) (fun hi T hI _ _ => hI.skip (by omega) (Nat.le_refl _) (by simp)) (by left; simp only [nAl, hk]) h
        | true =>
          simp only at h
          cases hk : kindOf P o with
          | pure =>
            simp only [hk] at h
            split at h
            · rename_i v hv
              exact more .pure v M r ⟨ho, fun h => (by rw [hke, hk] at h; cases h), hw, pureV_known hv, pureV_ok hv, rfl⟩ (fun h => by cases h) (fun hi T hI _ _ => hI.skip (by omega) (Nat.le_refl _) (by simp)) (by left; simp only [nAl, hk]) h
            · exact h.elim
          | read =>
            simp only [hk] at h
            split at h
            · rename_i v hv
              exact more .read v M r ⟨ho, fun h => (by rw [hke, hk] at h; cases h), hw, readV_known hv, rfl⟩ (fun _ => readV_ok hv) (fun hi T hI _ _ => hI.skip (by omega) (Nat.le_refl _) (by simp)) (by left; simp only [nAl, hk]) h
            · exact h.elim
          | alloc =>
            simp only [hk] at h
            split at h
            · rename_i b mk hv
              exact more (.alloc (n0 + r) b) (mk (n0 + r)) (M.put (n0 + r) b) (r + 1) ⟨ho, fun h => (by rw [hke, hk] at h; cases h), hw, allocA_known hv, by rw [hka, hk]; rfl, ⟨mk, rfl, allocA_ok hv⟩, rfl⟩ (fun h => by cases h)
                (fun hi T hI hle heq => Ids.alloc (by rwa [show n0 + (r + 1) = n0 + r + 1 by omega] at hI) (by simp only [nAl, hk] at heq; omega) rfl) (by left; simp only [nAl, hk]; omega) h
            · exact h.elim
          | eff =>
            simp only [hk] at h
            split at h
            · rename_i v M₁ hv
              exact more .eff v M₁ r ⟨ho, fun _ => .inr rfl, hw, effV_known hv, by rw [hke, hk]; rfl, effV_ok hv⟩ (fun h => by cases h) (fun hi T hI _ _ => hI.skip (by omega) (Nat.le_refl _) (by simp)) (by left; simp only [nAl, hk]) h
            · exact h.elim
          | call =>
            simp only [hk] at h
            split at h
            · rename_i f args hv
              obtain ⟨v, M₁, hc, h⟩ := h
              exact more .eff v M₁ r ⟨ho, fun _ => .inr rfl, hw, callOf_known hv, by rw [hke, hk]; rfl, call_ok hv hc⟩ (fun h => by cases h) (fun hi T hI _ _ => hI.skip (by omega) (Nat.le_refl _) (by simp)) (by left; simp only [nAl, hk]) h
            · obtain ⟨v, M₁, hkn, he, h⟩ := h
              exact more .eff v M₁ r ⟨ho, fun _ => .inr rfl, hw, hkn, by rw [hke, hk]; rfl, he⟩ (fun h => by cases h) (fun hi T hI _ _ => hI.skip (by omega) (Nat.le_refl _) (by simp)) (by left; simp only [nAl, hk]) h

theorem AWP.region {P : Program} {k id : Nat} {ops : Array Oper} {s : St} {Q : Exit → St → Prop}
    (h : wpS P ops k s.mem.next ops.toList 0 s.env (s.mem.bump (nAl P ops.toList)) fun e M => Q .normal ⟨e, M⟩) : AWP P k (.region id ops false) s Q := by
  obtain ⟨T, e', M', q1, q2, q3, q4, q5, q6, q7⟩ := wpS_trace ops.toList 0 s.env _ 0 (fun j o hj => by simpa using hj) h
  refine ⟨.normal, ⟨e', M'⟩, ARun.region_seq (nA := nAl P ops.toList) (T := T) (by rw [q1, List.range_eq_range']; simp) q5 ?_ q3 q2 q4, q7⟩
  intro A t C i b hT hc
  exact q6 A t C i b hT hc
end Go.Proofs.Ythheaehpnleiaaa.AX
