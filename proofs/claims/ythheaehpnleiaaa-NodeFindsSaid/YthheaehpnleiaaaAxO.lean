/- The layer, fifteenth part: all operations together. -/
import Derived.Test.YthheaehpnleiaaaAxN
namespace Go.Proofs.Ythheaehpnleiaaa.AX
open Go
set_option linter.unusedVariables false
set_option linter.unusedSimpArgs false

def evO (ev : Operand → Option Value) : Option Operand → Option (Option Value)
  | none => some none
  | some x => (ev x).map some
theorem evO_at {P : Program} {ρ : Emb} {ev : Operand → Option Value} {cv : Operand → Value} {x : Option Operand} {r : Option Value} (hx : ∀ y, x = some y → ∀ v, ev y = some v → VR P ρ v (cv y)) (h : evO ev x = some r) : VO P ρ r (x.map cv) := by
  cases x with
  | none => simp only [evO, Option.some.injEq] at h; subst h; exact .none
  | some y =>
    simp only [evO] at h
    cases hv : ev y with
    | none => rw [hv] at h; cases h
    | some v => rw [hv] at h; cases h; exact .some (hx y rfl v hv)

def lenV (P : Program) (t : TypeId) (x : Value) : Option Value := match P.underlying t, x with
  | some .string, .string s => some (.int .i64 s.size)
  | some (.array n _), _ => some (.int .i64 n)
  | some (.slice _), .slice _ n _ => some (.int .i64 n)
  | _, _ => none
theorem run_lenV {P : Program} {w : World} {ρ : Emb} {t ty : TypeId} {x x' v : Value} (h : lenV P t x = some v) (hx : VR P ρ x x') : ∃ v', (Builtin.len_ #[t] ty #[x']).run P w = .ok v' w ∧ VR P ρ v v' := by
  unfold lenV at h
  split at h
  · rename_i s h1
    cases h; cases hx
    refine ⟨_, ?_, .int _ _⟩
    simp only [Builtin.len_, List.getElem?_toArray, List.getElem?_cons_zero, Sem.run_bind, run_underlying h1, Result.andThen_ok]; rfl
  · rename_i n e h1
    cases h
    refine ⟨_, ?_, .int _ _⟩
    simp only [Builtin.len_, List.getElem?_toArray, List.getElem?_cons_zero, Sem.run_bind, run_underlying h1, Result.andThen_ok]; rfl
  · rename_i e a n c h1
    cases h
    refine ⟨_, ?_, .int _ _⟩
    cases hx <;> (simp only [Builtin.len_, List.getElem?_toArray, List.getElem?_cons_zero, Sem.run_bind, run_underlying h1, Result.andThen_ok]; rfl)
  · cases h

def extremeV (mx : Bool) : List Value → Option Value
  | [.int k x] => some (.int k x)
  | [.int k x, .int _ y] => some (.int k (bif mx then (if y > x then y else x) else (if y < x then y else x)))
  | [.int k x, .int _ y, .int _ z] => let a := (bif mx then (if y > x then y else x) else (if y < x then y else x)); some (.int k (bif mx then (if z > a then z else a) else (if z < a then z else a)))
  | _ => none
theorem run_extremeV {P : Program} {w : World} {ρ : Emb} {ts : Array TypeId} {ty : TypeId} {mx : Bool} {vs vs' : List Value} {v : Value} (h : extremeV mx vs = some v) (hx : VL P ρ vs vs') :
    ∃ v', (if mx then (Builtin.max_ ts ty vs'.toArray) else (Builtin.min_ ts ty vs'.toArray)).run P w = .ok v' w ∧ VR P ρ v v' := by
  unfold extremeV at h
  split at h
  · cases h
    cases hx with | cons h1 h2 => cases h1; cases h2; exact ⟨_, by cases mx <;> rfl, .int _ _⟩
  · cases h
    cases hx with | cons h1 h2 => cases h1; cases h2 with | cons h3 h4 => cases h3; cases h4; exact ⟨_, by cases mx <;> rfl, .int _ _⟩
  · cases h
    cases hx with | cons h1 h2 => cases h1; cases h2 with | cons h3 h4 => cases h3; cases h4 with | cons h5 h6 => cases h5; cases h6; exact ⟨_, by cases mx <;> rfl, .int _ _⟩
  · cases h

inductive Kind where
  | pure
  | read
  | alloc
  | eff
  | call
  deriving DecidableEq

def kindOf (P : Program) (o : Oper) : Kind := match o.op with
  | .alloc _ | .box _ _ | .buildSlice _ _ _ | .makeSlice _ _ _ => .alloc
  | .load _ _ => .read
  | .slice t _ _ _ _ => match P.underlying t with
    | some (.slice _) => .read
    | _ => .pure
  | .convert src dst _ => match P.underlying src, P.underlying dst with
    | some (.slice _), _ => .read
    | some .string, some (.slice _) => .alloc
    | _, _ => .pure
  | .store _ _ _ => .eff
  | .call c => match c.callee with
    | .builtin b => match b with
      | .len | .min | .max => .pure
      | _ => .eff
    | _ => .call
  | _ => .pure

def pureV (P : Program) (ev : Operand → Option Value) (o : Oper) : Option Value := match o.op with
  | .move x => ev x
  | .assign x => ev x
  | .pick c a b => match ev c, ev a, ev b with
    | some (.bool t), some x, some y => some (bif t then x else y)
    | _, _, _ => none
  | .nilCheck x => match ev x with
    | some (.pointer (some a)) => some (.pointer (some a))
    | _ => none
  | .binOp op t x y _ => match ev x, ev y with
    | some a, some b => binV P op t a b
    | _, _ => none
  | .unOp op _ x => match ev x with
    | some a => unV op a
    | none => none
  | .convert src dst x => match ev x with
    | some a => convV P src dst a
    | none => none
  | .makeInterface t x => match ev x with
    | some a => match P.underlying t with
      | some (.interface _) => none
      | some _ => some (.iface t a)
      | none => none
    | none => none
  | .makeFunc fn first captured => match evL ev first.toList, evL ev captured.toList with
    | some xs, some ys => some (.func fn xs.toArray ys.toArray)
    | _, _ => none
  | .fieldAddr t x f => match ev x with
    | some a => fieldAddrV P t a f
    | none => none
  | .field t x f => match ev x with
    | some a => fieldV P t a f
    | none => none
  | .indexAddr t x i => match ev x, ev i with
    | some a, some b => indexAddrV P t a b
    | _, _ => none
  | .index t x i => match ev x, ev i with
    | some a, some b => indexV P t a b
    | _, _ => none
  | .extract x i => match ev x with
    | some a => extractV a i
    | none => none
  | .build t parts => match evP ev parts.toList with
    | some ps => buildV P t ps
    | none => none
  | .slice t x lo hi mx => match ev x, evO ev lo, evO ev hi, evO ev mx with
    | some a, some l, some h, some m => sliceV P (fun _ => none) t a l h m
    | _, _, _, _ => none
  | .call c => match c.callee, evL ev c.args.toList with
    | .builtin .len, some [a] => match c.argTypes.toList with
      | [t] => lenV P t a
      | _ => none
    | .builtin .min, some vs => extremeV false vs
    | .builtin .max, some vs => extremeV true vs
    | _, _ => none
  | _ => none

def readV (P : Program) (ev : Operand → Option Value) (m : Mm) (o : Oper) : Option Value := match o.op with
  | .load t x => match ev x with
    | some a => loadV P m t a
    | none => none
  | .slice t x lo hi mx => match ev x, evO ev lo, evO ev hi, evO ev mx with
    | some a, some l, some h, some mm => sliceV P m t a l h mm
    | _, _, _, _ => none
  | .convert src dst x => match ev x with
    | some a => if src = dst then markV P m src dst a else strV P m src dst a
    | none => none
  | _ => none

def effV (P : Program) (ev : Operand → Option Value) (M : Mem) (o : Oper) : Option (Value × Mem) := match o.op with
  | .store t x y => match ev x, ev y with
    | some a, some b => match storeE P M t a b with
      | some M' => some (undef, M')
      | none => none
    | _, _ => none
  | .call c => match c.callee, c.args.toList, c.argTypes.toList with
    | .builtin .append, [p, q], [t, tx] => match ev p, ev q with
      | some s, some x => appendE P M t tx s x
      | _, _ => none
    | _, _, _ => none
  | _ => none

def callable (P : Program) (f : FuncId) : Bool := match P.funcs[f]? with
  | some fn => fn.body.isSome && !(fn.name == "runtime.NumGoroutine")
  | none => false
/-- which function is called, with what -/
def callOf (P : Program) (ev : Operand → Option Value) (o : Oper) : Option (FuncId × Array Value) := match o.op with
  | .call c => match c.callee with
    | .value f => match ev f, evL ev c.args.toList with
      | some (.func (.func fid) first captured), some vs => bif callable P fid then some (fid, first ++ vs.toArray ++ captured) else none
      | _, _ => none
    | _ => none
  | _ => none

theorem evL_known {ev : Operand → Option Value} : ∀ {xs : List Operand} {vs : List Value}, evL ev xs = some vs → ∀ x, x ∈ xs → ∃ v, ev x = some v
  | [], _, _, x, hx => by cases hx
  | y :: xs, vs, h, x, hx => by
    simp only [evL] at h
    split at h
    · rename_i v us h1 h2
      rcases List.mem_cons.1 hx with rfl | hx
      · exact ⟨v, h1⟩
      · exact evL_known h2 x hx
    · cases h
theorem evP_known {ev : Operand → Option Value} : ∀ {xs : List (Nat × Operand)} {vs : List (Nat × Value)}, evP ev xs = some vs → ∀ p, p ∈ xs → ∃ v, ev p.2 = some v
  | [], _, _, x, hx => by cases hx
  | (i, y) :: xs, vs, h, x, hx => by
    simp only [evP] at h
    split at h
    · rename_i v us h1 h2
      rcases List.mem_cons.1 hx with rfl | hx
      · exact ⟨v, h1⟩
      · exact evP_known h2 x hx
    · cases h
theorem evO_known {ev : Operand → Option Value} {x : Option Operand} {r : Option Value} (h : evO ev x = some r) (y : Operand) (hy : x = some y) : ∃ v, ev y = some v := by
  subst hy
  simp only [evO] at h
  cases hv : ev y with
  | none => rw [hv] at h; cases h
  | some v => exact ⟨v, rfl⟩

/-- every operand of such an operation is known -/
def Known (ev : Operand → Option Value) (o : Oper) : Prop := ∀ x, x ∈ o.op.operands → ∃ v, ev x = some v

theorem pureV_known {P : Program} {ev : Operand → Option Value} {o : Oper} {v : Value} (h : pureV P ev o = some v) : Known ev o := by
  intro x hx
  unfold pureV at h
  split at h
  all_goals (rename_i ho; simp only [ho, Op.operands] at hx)
  case h_1 => simp at hx; subst hx; exact ⟨v, h⟩
  case h_2 => simp at hx; subst hx; exact ⟨v, h⟩
  case h_3 =>
    split at h
    · rename_i h1 h2 h3; simp at hx; rcases hx with rfl | rfl | rfl <;> exact ⟨_, by assumption⟩
    · cases h
  case h_4 =>
    split at h
    · simp at hx; subst hx; exact ⟨_, by assumption⟩
    · cases h
  case h_5 =>
    split at h
    · simp at hx; rcases hx with rfl | rfl <;> exact ⟨_, by assumption⟩
    · cases h
  case h_6 =>
    split at h
    · simp at hx; subst hx; exact ⟨_, by assumption⟩
    · cases h
  case h_7 =>
    split at h
    · simp at hx; subst hx; exact ⟨_, by assumption⟩
    · cases h
  case h_8 =>
    split at h
    · simp at hx; subst hx; exact ⟨_, by assumption⟩
    · cases h
  case h_9 =>
    split at h
    · rename_i h1 h2
      simp at hx
      rcases hx with hx | hx
      · exact evL_known h1 x (by simpa using hx)
      · exact evL_known h2 x (by simpa using hx)
    · cases h
  case h_10 =>
    split at h
    · simp at hx; subst hx; exact ⟨_, by assumption⟩
    · cases h
  case h_11 =>
    split at h
    · simp at hx; subst hx; exact ⟨_, by assumption⟩
    · cases h
  case h_12 =>
    split at h
    · simp at hx; rcases hx with rfl | rfl <;> exact ⟨_, by assumption⟩
    · cases h
  case h_13 =>
    split at h
    · simp at hx; rcases hx with rfl | rfl <;> exact ⟨_, by assumption⟩
    · cases h
  case h_14 =>
    split at h
    · simp at hx; subst hx; exact ⟨_, by assumption⟩
    · cases h
  case h_15 =>
    split at h
    · rename_i h1
      simp at hx
      obtain ⟨n, hn⟩ := hx
      exact evP_known h1 (n, x) (by simpa using hn)
    · cases h
  case h_16 =>
    split at h
    · rename_i h1 h2 h3 h4
      simp at hx
      rcases hx with rfl | hx | hx | hx
      · exact ⟨_, h1⟩
      · exact evO_known h2 x hx
      · exact evO_known h3 x hx
      · exact evO_known h4 x hx
    · cases h
  case h_17 =>
    split at h
    · rename_i h1 h2
      simp only [Call.operands, h1] at hx
      exact evL_known h2 x (by simpa using hx)
    · rename_i h1 h2
      simp only [Call.operands, h1] at hx
      exact evL_known h2 x (by simpa using hx)
    · rename_i h1 h2
      simp only [Call.operands, h1] at hx
      exact evL_known h2 x (by simpa using hx)
    · cases h
  case h_18 => cases h

theorem readV_known {P : Program} {ev : Operand → Option Value} {m : Mm} {o : Oper} {v : Value} (h : readV P ev m o = some v) : Known ev o := by
  intro x hx
  unfold readV at h
  split at h
  all_goals (rename_i ho; simp only [ho, Op.operands] at hx)
  case h_1 =>
    split at h
    · simp at hx; subst hx; exact ⟨_, by assumption⟩
    · cases h
  case h_2 =>
    split at h
    · rename_i h1 h2 h3 h4
      simp at hx
      rcases hx with rfl | hx | hx | hx
      · exact ⟨_, h1⟩
      · exact evO_known h2 x hx
      · exact evO_known h3 x hx
      · exact evO_known h4 x hx
    · cases h
  case h_3 =>
    split at h
    · simp at hx; subst hx; exact ⟨_, by assumption⟩
    · cases h
  case h_4 => cases h

theorem allocA_known {P : Program} {ev : Operand → Option Value} {o : Oper} {r : Blk × (Nat → Value)} (h : allocA P ev o.op = some r) : Known ev o := by
  intro x hx
  unfold allocA at h
  split at h
  all_goals (rename_i ho; simp only [ho, Op.operands] at hx)
  case h_1 => simp at hx
  case h_2 =>
    split at h
    · simp at hx; subst hx; exact ⟨_, by assumption⟩
    · cases h
  case h_3 =>
    split at h
    · rename_i h1 h2
      simp at hx
      obtain ⟨n, hn⟩ := hx
      exact evP_known h2 (n, x) (by simpa using hn)
    · cases h
  case h_4 =>
    split at h
    · simp at hx; rcases hx with rfl | rfl <;> exact ⟨_, by assumption⟩
    · cases h
  case h_5 =>
    split at h
    · simp at hx; subst hx; exact ⟨_, by assumption⟩
    · cases h
  case h_6 => cases h

theorem effV_known {P : Program} {ev : Operand → Option Value} {M : Mem} {o : Oper} {r : Value × Mem} (h : effV P ev M o = some r) : Known ev o := by
  intro x hx
  unfold effV at h
  split at h
  all_goals (rename_i ho; simp only [ho, Op.operands] at hx)
  case h_1 =>
    split at h
    · simp at hx; rcases hx with rfl | rfl <;> exact ⟨_, by assumption⟩
    · cases h
  case h_2 =>
    split at h
    · rename_i h1 h2 h3
      simp only [Call.operands, h1] at hx
      split at h
      · rw [Array.empty_append, Array.mem_def, h2] at hx
        simp at hx
        rcases hx with rfl | rfl <;> exact ⟨_, by assumption⟩
      · cases h
    · cases h
  case h_3 => cases h

theorem callOf_known {P : Program} {ev : Operand → Option Value} {o : Oper} {r : FuncId × Array Value} (h : callOf P ev o = some r) : Known ev o := by
  intro x hx
  unfold callOf at h
  split at h
  · rename_i c ho
    simp only [ho, Op.operands] at hx
    split at h
    · rename_i f hc
      simp only [Call.operands, hc] at hx
      split at h
      · rename_i h1 h2
        simp at hx
        rcases hx with rfl | hx
        · exact ⟨_, h1⟩
        · exact evL_known h2 x (by simpa using hx)
      · cases h
    · cases h
  · cases h
end Go.Proofs.Ythheaehpnleiaaa.AX
