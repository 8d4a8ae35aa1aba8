/- The layer, fifteenth part: all operations together. -/
import Derived.Test.YtopblipficpilaaGreatDoorBulkPuts1
namespace Go.Proofs.YtopblipficpilaaGreatDoor.AY
open Go
set_option linter.unusedVariables false
set_option linter.unusedSimpArgs false

def evO (ev : Operand → Option Value) : Option Operand → Option (Option Value)
  | none => some none
  | some x => (ev x).map some
theorem evO_at {P : Program} {ρ : Emb} {ev : Operand → Option Value} {cv : Operand → Value} {x : Option Operand} {r : Option Value} (hx : ∀ y, x = some y → ∀ v, ev y = some v → VR P ρ v (cv y)) (h : evO ev x = some r) : VO P ρ r (x.map cv) := by
  cases x with
  | none => simp only [evO, Option.some.injEq] at h; subst h; exact .none
  | some y =>
    simp only [evO] at h
    cases hv : ev y with
    | none => rw [hv] at h; cases h
    | some v => rw [hv] at h; cases h; exact .some (hx y rfl v hv)

def lenV (P : Program) (t : TypeId) (x : Value) : Option Value := match P.underlying t, x with
  | some .string, .string s => some (.int .i64 s.size)
  | some (.array n _), _ => some (.int .i64 n)
  | some (.slice _), .slice _ n _ => some (.int .i64 n)
  | _, _ => none
theorem run_lenV {P : Program} {w : World} {ρ : Emb} {t ty : TypeId} {x x' v : Value} (h : lenV P t x = some v) (hx : VR P ρ x x') : ∃ v', (Builtin.len_ #[t] ty #[x']).run P w = .ok v' w ∧ VR P ρ v v' := by
  unfold lenV at h
  split at h
  · rename_i s h1
    cases h; cases hx
    refine ⟨_, ?_, .int _ _⟩
    simp only [Builtin.len_, List.getElem?_toArray, List.getElem?_cons_zero, Sem.run_bind, run_underlying h1, Result.andThen_ok]; rfl
  · rename_i n e h1
    cases h
    refine ⟨_, ?_, .int _ _⟩
    simp only [Builtin.len_, List.getElem?_toArray, List.getElem?_cons_zero, Sem.run_bind, run_underlying h1, Result.andThen_ok]; rfl
  · rename_i e a n c h1
    cases h
    refine ⟨_, ?_, .int _ _⟩
    cases hx <;> (simp only [Builtin.len_, List.getElem?_toArray, List.getElem?_cons_zero, Sem.run_bind, run_underlying h1, Result.andThen_ok]; rfl)
  · cases h

def capV (P : Program) (t : TypeId) (x : Value) : Option Value := match P.underlying t, x with
  | some (.slice _), .slice _ _ c => if c = unk then none else some (.int .i64 c)
  | _, _ => none
theorem run_capV {P : Program} {w : World} {ρ : Emb} {t ty : TypeId} {x x' v : Value} (h : capV P t x = some v) (hx : VR P ρ x x') : ∃ v', (Builtin.cap_ #[t] ty #[x']).run P w = .ok v' w ∧ VR P ρ v v' := by
  unfold capV at h
  split at h
  · rename_i e a n c h1
    split at h
    · cases h
    · rename_i hc
      cases h
      refine ⟨.int .i64 c, ?_, .int _ _⟩
      cases hx with
      | nils => simp only [Builtin.cap_, List.getElem?_toArray, List.getElem?_cons_zero, Sem.run_bind, run_underlying h1, Result.andThen_ok]; rfl
      | slice g1 g2 g3 g4 g5 g6 =>
        obtain rfl := g3.resolve_right hc
        simp only [Builtin.cap_, List.getElem?_toArray, List.getElem?_cons_zero, Sem.run_bind, run_underlying h1, Result.andThen_ok]; rfl
  · cases h

def extremeV (mx : Bool) : List Value → Option Value
  | [.int k x] => some (.int k x)
  | [.int k x, .int _ y] => some (.int k (bif mx then (if y > x then y else x) else (if y < x then y else x)))
  | [.int k x, .int _ y, .int _ z] => let a := (bif mx then (if y > x then y else x) else (if y < x then y else x)); some (.int k (bif mx then (if z > a then z else a) else (if z < a then z else a)))
  | _ => none
theorem run_extremeV {P : Program} {w : World} {ρ : Emb} {ts : Array TypeId} {ty : TypeId} {mx : Bool} {vs vs' : List Value} {v : Value} (h : extremeV mx vs = some v) (hx : VL P ρ vs vs') :
    ∃ v', (if mx then (Builtin.max_ ts ty vs'.toArray) else (Builtin.min_ ts ty vs'.toArray)).run P w = .ok v' w ∧ VR P ρ v v' := by
  unfold extremeV at h
  split at h
  · cases h
    cases hx with | cons h1 h2 => cases h1; cases h2; exact ⟨_, by cases mx <;> rfl, .int _ _⟩
  · cases h
    cases hx with | cons h1 h2 => cases h1; cases h2 with | cons h3 h4 => cases h3; cases h4; exact ⟨_, by cases mx <;> rfl, .int _ _⟩
  · cases h
    cases hx with | cons h1 h2 => cases h1; cases h2 with | cons h3 h4 => cases h3; cases h4 with | cons h5 h6 => cases h5; cases h6; exact ⟨_, by cases mx <;> rfl, .int _ _⟩
  · cases h

inductive Kind where
  | pure
  | read
  | alloc
  | eff
  | call
  deriving DecidableEq

def kindOf (P : Program) (o : Oper) : Kind := match o.op with
  | .alloc _ | .box _ _ | .buildSlice _ _ _ | .makeSlice _ _ _ | .makeMap _ _ => .alloc
  | .load _ _ => .read
  | .lookup _ _ _ _ => .read
  | .entry _ => .read
  | .mapUpdate _ _ _ _ => .eff
  | .range _ _ => .eff
  | .next _ _ => .eff
  | .slice t _ _ _ _ => match P.underlying t with
    | some (.slice _) => .read
    | _ => .pure
  | .convert src dst _ => match P.underlying src, P.underlying dst with
    | some (.slice _), _ => .read
    | some .string, some (.slice _) => .alloc
    | _, _ => .pure
  | .store _ _ _ => .eff
  | .call c => match c.callee with
    | .builtin b => match b with
      | .min | .max | .cap => .pure
      | .len => match c.argTypes.toList with
        | [t] => match P.underlying t with
          | some (.map _ _) => .read
          | _ => .pure
        | _ => .pure
      | _ => .eff
    | _ => .call
  | _ => .pure

def pureV (P : Program) (ev : Operand → Option Value) (o : Oper) : Option Value := match o.op with
  | .move x => ev x
  | .assign x => ev x
  | .pick c a b => match ev c, ev a, ev b with
    | some (.bool t), some x, some y => some (bif t then x else y)
    | _, _, _ => none
  | .nilCheck x => match ev x with
    | some (.pointer (some a)) => some (.pointer (some a))
    | _ => none
  | .binOp op t x y _ => match ev x, ev y with
    | some a, some b => binV P op t a b
    | _, _ => none
  | .unOp op _ x => match ev x with
    | some a => unV op a
    | none => none
  | .convert src dst x => match ev x with
    | some a => convV P src dst a
    | none => none
  | .makeInterface t x => match ev x with
    | some a => match P.underlying t with
      | some (.interface _) => none
      | some _ => some (.iface t a)
      | none => none
    | none => none
  | .makeFunc fn first captured => match evL ev first.toList, evL ev captured.toList with
    | some xs, some ys => some (.func fn xs.toArray ys.toArray)
    | _, _ => none
  | .fieldAddr t x f => match ev x with
    | some a => fieldAddrV P t a f
    | none => none
  | .field t x f => match ev x with
    | some a => fieldV P t a f
    | none => none
  | .indexAddr t x i => match ev x, ev i with
    | some a, some b => indexAddrV P t a b
    | _, _ => none
  | .index t x i => match ev x, ev i with
    | some a, some b => indexV P t a b
    | _, _ => none
  | .extract x i => match ev x with
    | some a => extractV a i
    | none => none
  | .build t parts => match evP ev parts.toList with
    | some ps => buildV P t ps
    | none => none
  | .slice t x lo hi mx => match ev x, evO ev lo, evO ev hi, evO ev mx with
    | some a, some l, some h, some m => sliceV P (fun _ => none) t a l h m
    | _, _, _, _ => none
  | .call c => match c.callee, evL ev c.args.toList with
    | .builtin .len, some [a] => match c.argTypes.toList with
      | [t] => lenV P t a
      | _ => none
    | .builtin .cap, some [a] => match c.argTypes.toList with
      | [t] => capV P t a
      | _ => none
    | .builtin .min, some vs => extremeV false vs
    | .builtin .max, some vs => extremeV true vs
    | _, _ => none
  | _ => none

def readV (P : Program) (ev : Operand → Option Value) (m : Mm) (o : Oper) : Option Value := match o.op with
  | .load t x => match ev x with
    | some a => loadV P m t a
    | none => none
  | .slice t x lo hi mx => match ev x, evO ev lo, evO ev hi, evO ev mx with
    | some a, some l, some h, some mm => sliceV P m t a l h mm
    | _, _, _, _ => none
  | .convert src dst x => match ev x with
    | some a => if src = dst then markV P m src dst a else strV P m src dst a
    | none => none
  | .lookup t x k ok => match ev x, ev k with
    | some a, some b => lookupV P m t a b ok
    | _, _ => none
  | .entry x => match ev x with
    | some a => entryV m a
    | none => none
  | .call c => match c.callee, evL ev c.args.toList with
    | .builtin .len, some [a] => match c.argTypes.toList with
      | [t] => lenM P m t a
      | _ => none
    | _, _ => none
  | _ => none

def effV (P : Program) (ev : Operand → Option Value) (M : Mem) (o : Oper) : Option (Value × Mem) := match o.op with
  | .store t x y => match ev x, ev y with
    | some a, some b => match storeE P M t a b with
      | some M' => some (undef, M')
      | none => none
    | _, _ => none
  | .call c => match c.callee, c.args.toList, c.argTypes.toList with
    | .builtin .append, [p, q], [t, tx] => match ev p, ev q with
      | some s, some x => appendE P M t tx s x
      | _, _ => none
    | .builtin .copy, [p, q], [t, _] => match ev p, ev q with
      | some d, some s => copyV P M t d s
      | _, _ => none
    | .builtin .delete, [p, q], [t, _] => match ev p, ev q with
      | some x, some k => match deleteV P M t x k with
        | some M' => some (undef, M')
        | none => none
      | _, _ => none
    | _, _, _ => none
  | .mapUpdate t x k y => match ev x, ev k, ev y with
    | some a, some b, some c => match updateV P M t a b c with
      | some M' => some (undef, M')
      | none => none
    | _, _, _ => none
  | .range t x => match P.underlying t, ev x with
    | some (.map _ _), some a => rangeV M a
    | _, _ => none
  | .next x str => match str, ev x with
    | false, some a => nextV M a
    | _, _ => none
  | _ => none

def callable (P : Program) (f : FuncId) : Bool := match P.funcs[f]? with
  | some fn => fn.body.isSome && !(fn.name == "runtime.NumGoroutine")
  | none => false
/-- the method of a type that is a pointer, or has its methods by value -/
def methodOf (P : Program) (t : TypeId) (name : String) : Option FuncId := match P.info? t with
  | some i => match i.methods.find? (·.name == name) with
    | some m => bif m.path.isEmpty then (match m.func, P.underlying t with
      | some (f, true), some (.pointer _) => some f
      | some (f, false), some (.struct _) => some f
      | _, _ => none) else none
    | none => none
  | none => none
/-- which function is called, with what -/
def callOf (P : Program) (ev : Operand → Option Value) (o : Oper) : Option (FuncId × Array Value) := match o.op with
  | .call c => match c.callee with
    | .value f => match ev f, evL ev c.args.toList with
      | some (.func (.func fid) first captured), some vs => bif callable P fid then some (fid, first ++ vs.toArray ++ captured) else none
      | _, _ => none
    | .invoke r name => match ev r, evL ev c.args.toList with
      | some (.iface t v), some vs => match methodOf P t name with
        | some fid => bif callable P fid then some (fid, #[v] ++ vs.toArray) else none
        | none => none
      | _, _ => none
    | _ => none
  | _ => none

theorem evL_known {ev : Operand → Option Value} : ∀ {xs : List Operand} {vs : List Value}, evL ev xs = some vs → ∀ x, x ∈ xs → ∃ v, ev x = some v
  | [], _, _, x, hx => by cases hx
  | y :: xs, vs, h, x, hx => by
    simp only [evL] at h
    split at h
    · rename_i v us h1 h2
      rcases List.mem_cons.1 hx with rfl | hx
      · exact ⟨v, h1⟩
      · exact evL_known h2 x hx
    · cases h
theorem evP_known {ev : Operand → Option Value} : ∀ {xs : List (Nat × Operand)} {vs : List (Nat × Value)}, evP ev xs = some vs → ∀ p, p ∈ xs → ∃ v, ev p.2 = some v
  | [], _, _, x, hx => by cases hx
  | (i, y) :: xs, vs, h, x, hx => by
    simp only [evP] at h
    split at h
    · rename_i v us h1 h2
      rcases List.mem_cons.1 hx with rfl | hx
      · exact ⟨v, h1⟩
      · exact evP_known h2 x hx
    · cases h
theorem evO_known {ev : Operand → Option Value} {x : Option Operand} {r : Option Value} (h : evO ev x = some r) (y : Operand) (hy : x = some y) : ∃ v, ev y = some v := by
  subst hy
  simp only [evO] at h
  cases hv : ev y with
  | none => rw [hv] at h; cases h
  | some v => exact ⟨v, rfl⟩

/-- every operand of such an operation is known -/
def Known (ev : Operand → Option Value) (o : Oper) : Prop := ∀ x, x ∈ o.op.operands → ∃ v, ev x = some v

theorem pureV_known {P : Program} {ev : Operand → Option Value} {o : Oper} {v : Value} (h : pureV P ev o = some v) : Known ev o := by
  intro x hx
  unfold pureV at h
  split at h
  all_goals (rename_i ho; simp only [ho, Op.operands] at hx)
  case h_1 => simp at hx; subst hx; exact ⟨v, h⟩
  case h_2 => simp at hx; subst hx; exact ⟨v, h⟩
  case h_3 =>
    split at h
    · rename_i h1 h2 h3; simp at hx; rcases hx with rfl | rfl | rfl <;> exact ⟨_, by assumption⟩
    · cases h
  case h_4 =>
    split at h
    · simp at hx; subst hx; exact ⟨_, by assumption⟩
    · cases h
  case h_5 =>
    split at h
    · simp at hx; rcases hx with rfl | rfl <;> exact ⟨_, by assumption⟩
    · cases h
  case h_6 =>
    split at h
    · simp at hx; subst hx; exact ⟨_, by assumption⟩
    · cases h
  case h_7 =>
    split at h
    · simp at hx; subst hx; exact ⟨_, by assumption⟩
    · cases h
  case h_8 =>
    split at h
    · simp at hx; subst hx; exact ⟨_, by assumption⟩
    · cases h
  case h_9 =>
    split at h
    · rename_i h1 h2
      simp at hx
      rcases hx with hx | hx
      · exact evL_known h1 x (by simpa using hx)
      · exact evL_known h2 x (by simpa using hx)
    · cases h
  case h_10 =>
    split at h
    · simp at hx; subst hx; exact ⟨_, by assumption⟩
    · cases h
  case h_11 =>
    split at h
    · simp at hx; subst hx; exact ⟨_, by assumption⟩
    · cases h
  case h_12 =>
    split at h
    · simp at hx; rcases hx with rfl | rfl <;> exact ⟨_, by assumption⟩
    · cases h
  case h_13 =>
    split at h
    · simp at hx; rcases hx with rfl | rfl <;> exact ⟨_, by assumption⟩
    · cases h
  case h_14 =>
    split at h
    · simp at hx; subst hx; exact ⟨_, by assumption⟩
    · cases h
  case h_15 =>
    split at h
    · rename_i h1
      simp at hx
      obtain ⟨n, hn⟩ := hx
      exact evP_known h1 (n, x) (by simpa using hn)
    · cases h
  case h_16 =>
    split at h
    · rename_i h1 h2 h3 h4
      simp at hx
      rcases hx with rfl | hx | hx | hx
      · exact ⟨_, h1⟩
      · exact evO_known h2 x hx
      · exact evO_known h3 x hx
      · exact evO_known h4 x hx
    · cases h
  case h_17 =>
    split at h
    · rename_i h1 h2
      simp only [Call.operands, h1] at hx
      exact evL_known h2 x (by simpa using hx)
    · rename_i h1 h2
      simp only [Call.operands, h1] at hx
      exact evL_known h2 x (by simpa using hx)
    · rename_i h1 h2
      simp only [Call.operands, h1] at hx
      exact evL_known h2 x (by simpa using hx)
    · rename_i h1 h2
      simp only [Call.operands, h1] at hx
      exact evL_known h2 x (by simpa using hx)
    · cases h
  case h_18 => cases h

theorem readV_known {P : Program} {ev : Operand → Option Value} {m : Mm} {o : Oper} {v : Value} (h : readV P ev m o = some v) : Known ev o := by
  intro x hx
  unfold readV at h
  split at h
  all_goals (rename_i ho; simp only [ho, Op.operands] at hx)
  case h_1 =>
    split at h
    · simp at hx; subst hx; exact ⟨_, by assumption⟩
    · cases h
  case h_2 =>
    split at h
    · rename_i h1 h2 h3 h4
      simp at hx
      rcases hx with rfl | hx | hx | hx
      · exact ⟨_, h1⟩
      · exact evO_known h2 x hx
      · exact evO_known h3 x hx
      · exact evO_known h4 x hx
    · cases h
  case h_3 =>
    split at h
    · simp at hx; subst hx; exact ⟨_, by assumption⟩
    · cases h
  case h_4 =>
    split at h
    · simp at hx; rcases hx with rfl | rfl <;> exact ⟨_, by assumption⟩
    · cases h
  case h_5 =>
    split at h
    · simp at hx; subst hx; exact ⟨_, by assumption⟩
    · cases h
  case h_6 =>
    split at h
    · rename_i h1 h2
      simp only [Call.operands, h1] at hx
      exact evL_known h2 x (by simpa using hx)
    · cases h
  case h_7 => cases h

theorem allocA0_known {P : Program} {ev : Operand → Option Value} {o : Oper} {r : Blk × (Nat → Value)} (h : allocA0 P ev o.op = some r) : Known ev o := by
  intro x hx
  unfold allocA0 at h
  split at h
  all_goals (rename_i ho; simp only [ho, Op.operands] at hx)
  case h_1 => simp at hx
  case h_2 =>
    split at h
    · simp at hx; subst hx; exact ⟨_, by assumption⟩
    · cases h
  case h_3 =>
    split at h
    · rename_i h1 h2
      simp at hx
      obtain ⟨n, hn⟩ := hx
      exact evP_known h2 (n, x) (by simpa using hn)
    · cases h
  case h_4 =>
    split at h
    · simp at hx; rcases hx with rfl | rfl <;> exact ⟨_, by assumption⟩
    · cases h
  case h_5 =>
    split at h
    · simp at hx; subst hx; exact ⟨_, by assumption⟩
    · cases h
  case h_6 => cases h

theorem allocA_known {P : Program} {ev : Operand → Option Value} {o : Oper} {r : Blk × (Nat → Value)} (h : allocA P ev o.op = some r) : Known ev o := by
  unfold allocA at h
  split at h
  · rename_i t ho
    intro x hx
    simp [ho, Op.operands] at hx
  · split at h
    · rename_i b mk h0
      exact allocA0_known h0
    · cases h

theorem effV_known {P : Program} {ev : Operand → Option Value} {M : Mem} {o : Oper} {r : Value × Mem} (h : effV P ev M o = some r) : Known ev o := by
  intro x hx
  unfold effV at h
  split at h
  all_goals (rename_i ho; simp only [ho, Op.operands] at hx)
  case h_1 =>
    split at h
    · simp at hx; rcases hx with rfl | rfl <;> exact ⟨_, by assumption⟩
    · cases h
  case h_2 =>
    have key : ∀ {p q : Operand} {l : List Operand} {b : Builtin} {c : Call} {u v : Value}, c.callee = .builtin b → c.args.toList = [p, q] → ev p = some u → ev q = some v → x ∈ c.operands → ∃ v, ev x = some v := by
      intro p q l b c u v h1 h2 h4 h5 hx
      simp only [Call.operands, h1] at hx
      rw [Array.empty_append, Array.mem_def, h2] at hx
      simp at hx
      rcases hx with rfl | rfl <;> exact ⟨_, by assumption⟩
    split at h
    · rename_i h1 h2 h3
      split at h
      · rename_i h4 h5; exact key (l := []) h1 h2 h4 h5 hx
      · cases h
    · rename_i h1 h2 h3
      split at h
      · rename_i h4 h5; exact key (l := []) h1 h2 h4 h5 hx
      · cases h
    · rename_i h1 h2 h3
      split at h
      · rename_i h4 h5; exact key (l := []) h1 h2 h4 h5 hx
      · cases h
    · cases h
  case h_3 =>
    split at h
    · simp at hx; rcases hx with rfl | rfl | rfl <;> exact ⟨_, by assumption⟩
    · cases h
  case h_4 =>
    split at h
    · simp at hx; subst hx; exact ⟨_, by assumption⟩
    · cases h
  case h_5 =>
    split at h
    · simp at hx; subst hx; exact ⟨_, by assumption⟩
    · cases h
  case h_6 => cases h

theorem callOf_known {P : Program} {ev : Operand → Option Value} {o : Oper} {r : FuncId × Array Value} (h : callOf P ev o = some r) : Known ev o := by
  intro x hx
  unfold callOf at h
  split at h
  · rename_i c ho
    simp only [ho, Op.operands] at hx
    split at h
    · rename_i f hc
      simp only [Call.operands, hc] at hx
      split at h
      · rename_i h1 h2
        simp at hx
        rcases hx with rfl | hx
        · exact ⟨_, h1⟩
        · exact evL_known h2 x (by simpa using hx)
      · cases h
    · rename_i r name hc
      simp only [Call.operands, hc] at hx
      split at h
      · rename_i h1 h2
        simp at hx
        rcases hx with rfl | hx
        · exact ⟨_, h1⟩
        · exact evL_known h2 x (by simpa using hx)
      · cases h
    · cases h
  · cases h
end Go.Proofs.YtopblipficpilaaGreatDoor.AY

/- The layer, sixteenth part: all operations together: the proof; regions that run in the one order. -/
namespace Go.Proofs.YtopblipficpilaaGreatDoor.AY
open Go
set_option linter.unusedVariables false
set_option linter.unusedSimpArgs false

theorem run_value {P : Program} {w : World} {s : Sem Value} {v : Value} {w' : World} (h : s.run P w = .ok v w') : (do pure (Next.value (← s)) : Sem Next).run P w = .ok (.value v) w' := by
  simp only [Sem.run_bind, h, Result.andThen_ok, Sem.run_pure]

theorem pureV_ok {P : Program} {ev : Operand → Option Value} {o : Oper} {v : Value} (h : pureV P ev o = some v) (m : Mm) : StillOk P o ev m v := by
  refine StillOk.of_run fun ρ a w hop hr => ?_
  have hat : ∀ x, x ∈ o.op.operands → ∀ u, ev x = some u → VR P ρ u (a.eval x) := fun x hx u hu => hop.at hx hu
  unfold pureV at h
  split at h
  all_goals (rename_i ho; simp only [ho, Op.operands] at hat; unfold execOp; simp only [ho])
  case h_1 x => exact ⟨a.eval x, rfl, hat x (by simp) v h⟩
  case h_2 x => exact ⟨a.eval x, rfl, hat x (by simp) v h⟩
  case h_3 c x y =>
    split at h
    · rename_i t u u' h1 h2 h3
      cases h
      have e1 := hat c (by simp) _ h1
      generalize a.eval c = c' at e1
      cases e1
      cases t
      · exact ⟨a.eval y, rfl, hat y (by simp) _ h3⟩
      · exact ⟨a.eval x, rfl, hat x (by simp) _ h2⟩
    · cases h
  case h_4 x =>
    split at h
    · rename_i b h1
      cases h
      have e1 := hat x (by simp) _ h1
      generalize a.eval x = x' at e1
      cases e1 with
      | ptr hf => exact ⟨_, rfl, .ptr hf⟩
    · cases h
  case h_5 op t x y yt =>
    split at h
    · rename_i u u' h1 h2
      obtain ⟨v', g1, g2⟩ := run_binOp (w := w) (p := x) (q := y) h (hat x (by simp) _ h1) (hat y (by simp) _ h2)
      exact ⟨v', run_value g1, g2⟩
    · cases h
  case h_6 op t x =>
    split at h
    · rename_i u h1
      obtain ⟨v', g1, g2⟩ := run_unOp (w := w) h (hat x (by simp) _ h1)
      exact ⟨v', run_value g1, g2⟩
    · cases h
  case h_7 src dst x =>
    split at h
    · rename_i u h1
      obtain ⟨v', g1, g2⟩ := run_conv (w := w) h (hat x (by simp) _ h1)
      exact ⟨v', run_value g1, g2⟩
    · cases h
  case h_8 t x =>
    split at h
    · rename_i u h1
      have e1 := hat x (by simp) _ h1
      split at h
      · cases h
      · rename_i d h2 h3
        cases h
        refine ⟨.iface t (a.eval x), run_value ?_, .iface t e1⟩
        cases d <;> first
          | (exact (h2 _ rfl).elim)
          | (simp only [Instr.makeInterface, Sem.run_bind, run_underlying h3, Result.andThen_ok, Sem.run_pure])
      · cases h
    · cases h
  case h_9 fn first captured =>
    split at h
    · rename_i xs ys h1 h2
      cases h
      have e1 := (evL_at (ρ := ρ) (P := P) (cv := a.eval) (fun x hx u hu => hat x (by simp; exact .inl (by simpa using hx)) u hu) h1).vrs
      have e2 := (evL_at (ρ := ρ) (P := P) (cv := a.eval) (fun x hx u hu => hat x (by simp; exact .inr (by simpa using hx)) u hu) h2).vrs
      have m1 : (first.toList.map a.eval).toArray = first.map a.eval := by apply Array.ext'; simp
      have m2 : (captured.toList.map a.eval).toArray = captured.map a.eval := by apply Array.ext'; simp
      rw [m1] at e1
      rw [m2] at e2
      exact ⟨_, rfl, .func fn e1.1 e2.1 e1.2 e2.2⟩
    · cases h
  case h_10 t x f =>
    split at h
    · rename_i u h1
      obtain ⟨v', g1, g2⟩ := run_fieldAddrV (w := w) h (hat x (by simp) _ h1)
      exact ⟨v', run_value g1, g2⟩
    · cases h
  case h_11 t x f =>
    split at h
    · rename_i u h1
      obtain ⟨v', g1, g2⟩ := run_fieldV (w := w) h (hat x (by simp) _ h1)
      exact ⟨v', run_value g1, g2⟩
    · cases h
  case h_12 t x i =>
    split at h
    · rename_i u u' h1 h2
      obtain ⟨v', g1, g2⟩ := run_indexAddrV (w := w) h (hat x (by simp) _ h1) (hat i (by simp) _ h2)
      exact ⟨v', run_value g1, g2⟩
    · cases h
  case h_13 t x i =>
    split at h
    · rename_i u u' h1 h2
      obtain ⟨v', g1, g2⟩ := run_indexV (w := w) h (hat x (by simp) _ h1) (hat i (by simp) _ h2)
      exact ⟨v', run_value g1, g2⟩
    · cases h
  case h_14 x i =>
    split at h
    · rename_i u h1
      obtain ⟨v', g1, g2⟩ := run_extractV (P := P) (w := w) h (hat x (by simp) _ h1)
      exact ⟨v', run_value g1, g2⟩
    · cases h
  case h_15 t parts =>
    split at h
    · rename_i ps h1
      have e1 := evP_at (ρ := ρ) (P := P) (cv := a.eval) (fun p hp u hu => hat p.2 (by simp; exact ⟨p.1, by simpa using hp⟩) u hu) h1
      obtain ⟨v', g1, g2⟩ := run_build (w := w) h e1
      refine ⟨v', run_value ?_, g2⟩
      have m1 : (parts.toList.map fun (i, x) => (i, a.eval x)).toArray = parts.map fun (i, x) => (i, a.eval x) := by apply Array.ext'; simp
      rw [← m1]; exact g1
    · cases h
  case h_16 t x lo hi mx =>
    split at h
    · rename_i u l hh mm h1 h2 h3 h4
      obtain ⟨v', g1, g2⟩ := run_sliceV (m := fun _ => none) (w := w) h (hat x (by simp) _ h1) (hr.within fun _ _ h => by cases h) (evO_at (fun y hy u hu => hat y (by subst hy; simp) u hu) h2)
        (evO_at (fun y hy u hu => hat y (by subst hy; simp) u hu) h3) (evO_at (fun y hy u hu => hat y (by subst hy; simp) u hu) h4)
      exact ⟨v', run_value g1, g2⟩
    · cases h
  case h_17 c =>
    split at h
    · rename_i u h1 h2
      split at h
      · rename_i t h3
        have e1 := evL_at (ρ := ρ) (P := P) (cv := a.eval) (fun x hx u hu => hat x (by simp only [Call.operands, h1]; simpa using hx) u hu) h2
        have m1 : (c.args.toList.map a.eval).toArray = c.args.map a.eval := by apply Array.ext'; simp
        generalize c.args.toList.map a.eval = l at e1 m1
        cases e1 with
        | cons e1 e2 =>
          cases e2
          obtain ⟨v', g1, g2⟩ := run_lenV (w := w) (ty := o.type) h e1
          refine ⟨v', ?_, g2⟩
          have ht : c.argTypes = #[t] := by apply Array.ext'; simpa using h3
          simp only [resolve, h1, Sem.run_bind, Sem.run_pure, Result.andThen_ok, invoke, builtin, ht, ← m1]
          rw [g1]; rfl
      · cases h
    · rename_i u h1 h2
      split at h
      · rename_i t h3
        have e1 := evL_at (ρ := ρ) (P := P) (cv := a.eval) (fun x hx u hu => hat x (by simp only [Call.operands, h1]; simpa using hx) u hu) h2
        have m1 : (c.args.toList.map a.eval).toArray = c.args.map a.eval := by apply Array.ext'; simp
        generalize c.args.toList.map a.eval = l at e1 m1
        cases e1 with
        | cons e1 e2 =>
          cases e2
          obtain ⟨v', g1, g2⟩ := run_capV (w := w) (ty := o.type) h e1
          refine ⟨v', ?_, g2⟩
          have ht : c.argTypes = #[t] := by apply Array.ext'; simpa using h3
          simp only [resolve, h1, Sem.run_bind, Sem.run_pure, Result.andThen_ok, invoke, builtin, ht, ← m1]
          rw [g1]; rfl
      · cases h
    · rename_i vs h1 h2
      have e1 := evL_at (ρ := ρ) (P := P) (cv := a.eval) (fun x hx u hu => hat x (by simp only [Call.operands, h1]; simpa using hx) u hu) h2
      have m1 : (c.args.toList.map a.eval).toArray = c.args.map a.eval := by apply Array.ext'; simp
      obtain ⟨v', g1, g2⟩ := run_extremeV (w := w) (ts := c.argTypes) (ty := o.type) h e1
      refine ⟨v', ?_, g2⟩
      simp only [Bool.false_eq_true, if_false] at g1
      simp only [resolve, h1, Sem.run_bind, Sem.run_pure, Result.andThen_ok, invoke, builtin, ← m1]
      rw [g1]; rfl
    · rename_i vs h1 h2
      have e1 := evL_at (ρ := ρ) (P := P) (cv := a.eval) (fun x hx u hu => hat x (by simp only [Call.operands, h1]; simpa using hx) u hu) h2
      have m1 : (c.args.toList.map a.eval).toArray = c.args.map a.eval := by apply Array.ext'; simp
      obtain ⟨v', g1, g2⟩ := run_extremeV (w := w) (ts := c.argTypes) (ty := o.type) h e1
      refine ⟨v', ?_, g2⟩
      simp only [if_true] at g1
      simp only [resolve, h1, Sem.run_bind, Sem.run_pure, Result.andThen_ok, invoke, builtin, ← m1]
      rw [g1]; rfl
    · cases h
  case h_18 => cases h

theorem readV_ok {P : Program} {ev : Operand → Option Value} {o : Oper} {m : Mm} {v : Value} (h : readV P ev m o = some v) : StillOk P o ev m v := by
  unfold readV at h
  split at h
  · rename_i t x ho
    split at h
    · rename_i u h1
      refine StillOk.of_run fun ρ a w hop hr => ?_
      obtain ⟨ad, v', g1, g2, g3⟩ := run_loadVar (w := w) h (hop.at (x := x) (by simp [ho, Op.operands]) h1) hr
      refine ⟨v', ?_, g3⟩
      unfold execOp
      simp only [ho]
      refine run_value ?_
      simp only [Instr.loadAt, g1, Instr.sureAddr, Sem.run_bind, Sem.run_pure, Result.andThen_ok, g2]
    · cases h
  · rename_i t x lo hi mx ho
    split at h
    · rename_i u l hh mm h1 h2 h3 h4
      refine StillOk.of_run fun ρ a w hop hr => ?_
      have hat : ∀ x, x ∈ o.op.operands → ∀ u, ev x = some u → VR P ρ u (a.eval x) := fun x hx u hu => hop.at hx hu
      simp only [ho, Op.operands] at hat
      obtain ⟨v', g1, g2⟩ := run_sliceV (m := m) (w := w) h (hat x (by simp) _ h1) hr (evO_at (fun y hy u hu => hat y (by subst hy; simp) u hu) h2)
        (evO_at (fun y hy u hu => hat y (by subst hy; simp) u hu) h3) (evO_at (fun y hy u hu => hat y (by subst hy; simp) u hu) h4)
      refine ⟨v', ?_, g2⟩
      unfold execOp
      simp only [ho]
      exact run_value g1
    · cases h
  · rename_i src dst x ho
    split at h
    · rename_i u h1
      split at h
      · exact still_markV ho h1 h
      · refine StillOk.of_run fun ρ a w hop hr => ?_
        obtain ⟨v', g1, g2⟩ := run_strV (w := w) h (hop.at (x := x) (by simp [ho, Op.operands]) h1) hr
        refine ⟨v', ?_, g2⟩
        unfold execOp
        simp only [ho]
        exact run_value g1
    · cases h
  · rename_i t x k ok ho
    split at h
    · rename_i u u' h1 h2
      refine StillOk.of_run fun ρ a w hop hr => ?_
      obtain ⟨v', g1, g2⟩ := run_lookupV (w := w) h (hop.at (x := x) (by simp [ho, Op.operands]) h1) (hop.at (x := k) (by simp [ho, Op.operands]) h2) hr
      refine ⟨v', ?_, g2⟩
      unfold execOp
      simp only [ho]
      exact run_value g1
    · cases h
  · rename_i x ho
    split at h
    · rename_i u h1
      refine StillOk.of_run fun ρ a w hop hr => ?_
      obtain ⟨v', g1, g2⟩ := run_entryV (w := w) h (hop.at (x := x) (by simp [ho, Op.operands]) h1) hr
      refine ⟨v', ?_, g2⟩
      unfold execOp
      simp only [ho]
      exact run_value g1
    · cases h
  · rename_i c ho
    split at h
    · rename_i u h1 h2
      split at h
      · rename_i t h3
        refine StillOk.of_run fun ρ a w hop hr => ?_
        have hat : ∀ x, x ∈ o.op.operands → ∀ u, ev x = some u → VR P ρ u (a.eval x) := fun x hx u hu => hop.at hx hu
        simp only [ho, Op.operands] at hat
        have e1 := evL_at (ρ := ρ) (P := P) (cv := a.eval) (fun x hx u hu => hat x (by simp only [Call.operands, h1]; simpa using hx) u hu) h2
        have m1 : (c.args.toList.map a.eval).toArray = c.args.map a.eval := by apply Array.ext'; simp
        generalize c.args.toList.map a.eval = l at e1 m1
        cases e1 with
        | cons e1 e2 =>
          cases e2
          obtain ⟨v', g1, g2⟩ := run_lenM (w := w) (ty := o.type) h e1 hr
          refine ⟨v', ?_, g2⟩
          have ht : c.argTypes = #[t] := by apply Array.ext'; simpa using h3
          unfold execOp
          simp only [ho, resolve, h1, Sem.run_bind, Sem.run_pure, Result.andThen_ok, invoke, builtin, ht, ← m1]
          rw [g1]; rfl
      · cases h
    · cases h
  · cases h

theorem call_form {c : Call} {b : Builtin} {p q : Operand} {t tx : TypeId} (h1 : c.callee = .builtin b) (h2 : c.args.toList = [p, q]) (h3 : c.argTypes.toList = [t, tx]) : c = { callee := .builtin b, args := #[p, q], argTypes := #[t, tx] } := by
  obtain ⟨callee, args, argTypes⟩ := c
  simp only at h1 h2 h3
  subst h1
  have ha : args = #[p, q] := by apply Array.ext'; simpa using h2
  have ht : argTypes = #[t, tx] := by apply Array.ext'; simpa using h3
  rw [ha, ht]
theorem effV_ok {P : Program} {ev : Operand → Option Value} {M M' : Mem} {o : Oper} {v : Value} (h : effV P ev M o = some (v, M')) : EffOk P o ev M v M' := by
  unfold effV at h
  split at h
  · rename_i t x y ho
    split at h
    · rename_i u u' h1 h2
      split at h
      · rename_i M₁ h3
        cases h
        exact storeE_ok ho h1 h2 h3
      · cases h
    · cases h
  · rename_i c ho
    split at h
    · rename_i p q t tx h1 h2 h3
      split at h
      · rename_i s x h4 h5
        exact appendE_ok (p := p) (q := q) (t := t) (tx := tx) (by rw [ho, call_form h1 h2 h3]) h4 h5 h
      · cases h
    · rename_i p q t tx h1 h2 h3
      split at h
      · rename_i s x h4 h5
        exact copyV_ok (p := p) (q := q) (t := t) (tx := tx) (by rw [ho, call_form h1 h2 h3]) h4 h5 h
      · cases h
    · rename_i p q t tx h1 h2 h3
      split at h
      · rename_i s x h4 h5
        split at h
        · rename_i M₁ h6
          cases h
          exact deleteV_ok (p := p) (q := q) (t := t) (tx := tx) (by rw [ho, call_form h1 h2 h3]) h4 h5 h6
        · cases h
      · cases h
    · cases h
  · rename_i t x k y ho
    split at h
    · rename_i u u' u'' h1 h2 h3
      split at h
      · rename_i M₁ h4
        cases h
        exact updateV_ok ho h1 h2 h3 h4
      · cases h
    · cases h
  · rename_i t x ho
    split at h
    · rename_i kt et u h1 h2
      exact rangeV_ok ho h1 h2 h
    · cases h
  · rename_i x str ho
    split at h
    · rename_i u h2
      exact nextV_ok ho h2 h
    · cases h
  · cases h

theorem VRs.append {P : Program} {ρ : Emb} {xs xs' ys ys' : Array Value} (h : VRs P ρ xs xs') (h' : VRs P ρ ys ys') : VRs P ρ (xs ++ ys) (xs' ++ ys') := by
  have := (h.vl.append h'.vl).vrs
  have e1 : (xs.toList ++ ys.toList).toArray = xs ++ ys := by apply Array.ext'; simp
  have e2 : (xs'.toList ++ ys'.toList).toArray = xs' ++ ys' := by apply Array.ext'; simp
  rw [e1, e2] at this
  exact this

theorem run_methodOf {P : Program} {w : World} {t : TypeId} {name : String} {f : FuncId} {v : Value} (h : methodOf P t name = some f) {n : Nat} : (Go.method (n + 1) t v name).run P w = .ok (f, v) w := by
  unfold methodOf at h
  split at h
  · rename_i i h1
    split at h
    · rename_i m h2
      cases hp : m.path.isEmpty with
      | false => simp [hp] at h
      | true =>
        simp only [hp, cond_true] at h
        have hpe : m.path.toList = [] := by simpa using hp
        have hti : (typeInfo t).run P w = .ok i w := by simp [typeInfo, h1]
        split at h
        · rename_i g e h3 h4
          cases h
          simp only [Go.method, Sem.run_bind, hti, Result.andThen_ok, h2, hpe, follow, Sem.run_pure, h3, receiverAt, run_underlying h4, Place.get]
        · rename_i g fs h3 h4
          cases h
          simp only [Go.method, Sem.run_bind, hti, Result.andThen_ok, h2, hpe, follow, Sem.run_pure, h3, receiverAt, run_underlying h4, Place.get]
        · cases h
    · cases h
  · cases h
theorem call_ok {P : Program} {ev : Operand → Option Value} {M M' : Mem} {o : Oper} {v : Value} {f : FuncId} {args : Array Value} (h : callOf P ev o = some (f, args)) (hc : ACall P f args M v M') : EffOk P o ev M v M' := by
  unfold callOf at h
  split at h
  · rename_i c ho
    split at h
    · rename_i g hcal
      split at h
      · rename_i fid first captured vs h1 h2
        cases hcb : callable P fid with
        | false => simp [hcb] at h
        | true =>
          simp only [hcb, cond_true, Option.some.injEq, Prod.mk.injEq] at h
          obtain ⟨rfl, rfl⟩ := h
          intro ρ a w K Q hop hr hf hk
          have hat : ∀ x, x ∈ o.op.operands → ∀ u, ev x = some u → VR P ρ u (a.eval x) := fun x hx u hu => hop.at hx hu
          simp only [ho, Op.operands, Call.operands, hcal] at hat
          have e1 := hat g (by simp) _ h1
          have e2 := (evL_at (ρ := ρ) (P := P) (cv := a.eval) (fun x hx u hu => hat x (by simp; exact .inr (by simpa using hx)) u hu) h2).vrs
          have m1 : (c.args.toList.map a.eval).toArray = c.args.map a.eval := by apply Array.ext'; simp
          rw [m1] at e2
          generalize hg : a.eval g = g' at e1
          cases e1 with
          | func fn hx hy hxx hyy =>
            rename_i first' captured'
            have hargs : VRs P ρ (first ++ vs.toArray ++ captured) (first' ++ c.args.map a.eval ++ captured') := (VRs.append ⟨hx, hxx⟩ e2).append ⟨hy, hyy⟩
            have hrun : (execOp a.eval o).run P w = .ok (.enter fid (first' ++ c.args.map a.eval ++ captured')) w := by
              unfold callable at hcb
              split at hcb
              · rename_i fn' hfn
                simp only [Bool.and_eq_true, Bool.not_eq_true', beq_eq_false_iff_ne, ne_eq] at hcb
                obtain ⟨hb, hnm⟩ := hcb
                have hbn : fn'.body.isNone = false := by cases hh : fn'.body <;> simp_all
                unfold execOp
                simp only [ho, resolve, hcal, hg, Deferred.ofValue, Sem.run_bind, Sem.run_pure, Result.andThen_ok, invoke, callFunc, run_program, hfn]
                rw [if_neg (by simpa using hnm)]
                simp only [hbn, Bool.false_eq_true, if_false, Sem.run_pure]
              · cases hcb
            unfold Oper.wp
            rw [hrun]
            rw [Oper.upon_enter]
            refine (hc ρ w _ hargs hr hf).mono ?_
            rintro e w' ⟨r', ρ', rfl, q1, q2, q3, q4⟩
            · exact hk r' ρ' w' q1 q2 q3 q4
      · cases h
    · rename_i g name hcal
      split at h
      · rename_i t v0 vs h1 h2
        split at h
        · rename_i fid hm
          cases hcb : callable P fid with
          | false => simp [hcb] at h
          | true =>
            simp only [hcb, cond_true, Option.some.injEq, Prod.mk.injEq] at h
            obtain ⟨rfl, rfl⟩ := h
            intro ρ a w K Q hop hr hf hk
            have hat : ∀ x, x ∈ o.op.operands → ∀ u, ev x = some u → VR P ρ u (a.eval x) := fun x hx u hu => hop.at hx hu
            simp only [ho, Op.operands, Call.operands, hcal] at hat
            have e1 := hat g (by simp) _ h1
            have e2 := (evL_at (ρ := ρ) (P := P) (cv := a.eval) (fun x hx u hu => hat x (by simp; exact .inr (by simpa using hx)) u hu) h2).vrs
            have m1 : (c.args.toList.map a.eval).toArray = c.args.map a.eval := by apply Array.ext'; simp
            rw [m1] at e2
            generalize hg : a.eval g = g' at e1
            cases e1 with
            | iface t hv =>
              rename_i v0'
              have hone : VRs P ρ #[v0] #[v0'] := ⟨rfl, fun i x x' hx hx' => by
                match i with
                | 0 => simp at hx hx'; subst hx; subst hx'; exact hv
                | n + 1 => simp at hx⟩
              have hargs : VRs P ρ (#[v0] ++ vs.toArray) (#[v0'] ++ c.args.map a.eval) := VRs.append hone e2
              have hrun : (execOp a.eval o).run P w = .ok (.enter fid (#[v0'] ++ c.args.map a.eval)) w := by
                unfold callable at hcb
                split at hcb
                · rename_i fn' hfn
                  simp only [Bool.and_eq_true, Bool.not_eq_true', beq_eq_false_iff_ne, ne_eq] at hcb
                  obtain ⟨hb, hnm⟩ := hcb
                  have hbn : fn'.body.isNone = false := by cases hh : fn'.body <;> simp_all
                  unfold execOp
                  simp only [ho, resolve, hcal, hg, Sem.run_bind, Sem.run_pure, Result.andThen_ok, invoke, callMethod, run_program]
                  have hx0 : (#[Value.iface t v0'] ++ c.args.map a.eval)[0]? = some (.iface t v0') := by rw [Array.getElem?_append_left (by simp)]; rfl
                  have hxs : (#[Value.iface t v0'] ++ c.args.map a.eval).extract 1 (#[Value.iface t v0'] ++ c.args.map a.eval).size = c.args.map a.eval := by
                    apply Array.ext'; simp; exact List.take_of_length_le (by simp)
                  have hmd : (Go.method (P.types.size + Made.depth) t v0' name).run P w = .ok (fid, v0') w := run_methodOf (n := P.types.size + (Made.depth - 1)) hm
                  simp only [hx0, hxs, hmd, Result.andThen_ok, callFunc, Sem.run_bind, run_program, hfn]
                  rw [if_neg (by simpa using hnm)]
                  simp only [hbn, Bool.false_eq_true, if_false, Sem.run_pure]
                · cases hcb
              unfold Oper.wp
              rw [hrun]
              rw [Oper.upon_enter]
              refine (hc ρ w _ hargs hr hf).mono ?_
              rintro e w' ⟨r', ρ', rfl, q1, q2, q3, q4⟩
              · exact hk r' ρ' w' q1 q2 q3 q4
        · cases h
      · cases h
    · cases h
  · cases h
end Go.Proofs.YtopblipficpilaaGreatDoor.AY

/- The layer, seventeenth part: a region's rule for the walk: in the one order, and in any. -/
namespace Go.Proofs.YtopblipficpilaaGreatDoor.AY
open Go
set_option linter.unusedVariables false
set_option linter.unusedSimpArgs false

def dstLt (k : Nat) : Option Nat → Bool
  | none => true
  | some d => decide (d < k)
theorem dstLt_spec {k : Nat} {o : Option Nat} (h : dstLt k o = true) (s : Nat) (hs : o = some s) : s < k := by subst hs; simpa [dstLt] using h

def nAl (P : Program) : List Oper → Nat
  | [] => 0
  | o :: l => match kindOf P o with
    | .alloc => nAl P l + 1
    | _ => nAl P l

/-- operations in the text's order -/
def wpS (P : Program) (ops : Array Oper) (k n0 : Nat) : List Oper → Nat → Env → Mem → (Env → Mem → Prop) → Prop
  | [], _, e, M, K => K e M
  | o :: l, r, e, M, K => bif dstLt k o.dst then match wantA ops e o with
    | none => False
    | some false => match kindOf P o with
      | .alloc => wpS P ops k n0 l (r + 1) (e.put o.dst undef) M K
      | _ => wpS P ops k n0 l r (e.put o.dst undef) M K
    | some true => match kindOf P o with
      | .pure => match pureV P (aev e) o with
        | some v => wpS P ops k n0 l r (e.put o.dst v) M K
        | none => False
      | .read => match readV P (aev e) M.get o with
        | some v => wpS P ops k n0 l r (e.put o.dst v) M K
        | none => False
      | .alloc => match allocA P (aev e) o.op with
        | some (b, mk) => wpS P ops k n0 l (r + 1) (e.put o.dst (mk (n0 + r))) (M.put (n0 + r) b) K
        | none => False
      | .eff => match effV P (aev e) M o with
        | some (v, M') => wpS P ops k n0 l r (e.put o.dst v) M' K
        | none => False
      | .call => match callOf P (aev e) o with
        | some (f, args) => ∃ v M', ACall P f args M v M' ∧ wpS P ops k n0 l r (e.put o.dst v) M' K
        | none => ∃ v M', Known (aev e) o ∧ EffOk P o (aev e) M v M' ∧ wpS P ops k n0 l r (e.put o.dst v) M' K
    else False

theorem kind_eff {P : Program} {o : Oper} : isEff o = (kindOf P o == .eff || kindOf P o == .call) := by
  obtain ⟨dst, op, type, pos, after, guard⟩ := o
  cases op <;> simp only [isEff, kindOf] <;> try rfl
  case convert src dst x => split <;> rfl
  case slice t x lo hi mx => split <;> rfl
  case call c =>
    cases c.callee <;> simp only <;> try rfl
    rename_i b
    cases b <;> (try rfl)
    rcases c.argTypes.toList with _ | ⟨t, _ | ⟨u, l⟩⟩ <;> (try rfl)
    dsimp only
    generalize P.underlying t = x
    rcases x with _ | d
    · rfl
    · cases d <;> rfl
theorem kind_alloc {P : Program} {o : Oper} : isAlloc P o = (kindOf P o == .alloc) := by
  obtain ⟨dst, op, type, pos, after, guard⟩ := o
  cases op <;> simp only [isAlloc, kindOf] <;> try rfl
  case convert src dst x =>
    generalize P.underlying src = a
    generalize P.underlying dst = b
    rcases a with _ | a <;> rcases b with _ | b <;> (try cases a) <;> (try cases b) <;> rfl
  case slice t x lo hi mx => split <;> rfl
  case call c =>
    cases c.callee <;> simp only <;> try rfl
    rename_i b
    cases b <;> (try rfl)
    rcases c.argTypes.toList with _ | ⟨t, _ | ⟨u, l⟩⟩ <;> (try rfl)
    dsimp only
    generalize P.underlying t = x
    rcases x with _ | d
    · rfl
    · cases d <;> rfl

/-- the ids of what is made, in their order -/
def Ids (T : List Tk) (lo hi : Nat) : Prop := ∀ A t C i b, T = A ++ t :: C → t.cls = .alloc i b → lo ≤ i ∧ i < hi ∧ ∀ u b', u ∈ C → u.cls ≠ .alloc i b'
theorem Ids.nil (lo hi : Nat) : Ids [] lo hi := fun A t C i b h => by simp at h
theorem Ids.skip {T : List Tk} {lo hi lo' hi' : Nat} (h : Ids T lo hi) (h1 : lo' ≤ lo) (h2 : hi ≤ hi') {t : Tk} (hc : ∀ i b, t.cls ≠ .alloc i b) : Ids (t :: T) lo' hi' := by
  intro A u C i b hT hu
  cases A with
  | nil => simp at hT; obtain ⟨rfl, rfl⟩ := hT; exact absurd hu (hc i b)
  | cons a A => simp at hT; obtain ⟨rfl, hT⟩ := hT; obtain ⟨q1, q2, q3⟩ := h A u C i b hT hu; exact ⟨by omega, by omega, q3⟩
theorem Ids.alloc {T : List Tk} {n hi : Nat} (h : Ids T (n + 1) hi) (hlt : n < hi) {t : Tk} {b : Blk} (hc : t.cls = .alloc n b) : Ids (t :: T) n hi := by
  intro A u C i c hT hu
  cases A with
  | nil =>
    simp at hT; obtain ⟨rfl, rfl⟩ := hT
    rw [hc] at hu; cases hu
    refine ⟨Nat.le_refl _, hlt, fun x b' hx hcl => ?_⟩
    obtain ⟨A', C', rfl⟩ := List.append_of_mem hx
    have := (h A' x C' _ b' rfl hcl).1
    omega
  | cons a A => simp at hT; obtain ⟨rfl, hT⟩ := hT; obtain ⟨q1, q2, q3⟩ := h A u C i c hT hu; exact ⟨by omega, q2, q3⟩

theorem wpS_trace {P : Program} {ops : Array Oper} {k n0 : Nat} {K : Env → Mem → Prop} : ∀ (l : List Oper) (r : Nat) (e : Env) (M : Mem) (s : Nat), (∀ j o, l[j]? = some o → ops[s + j]? = some o) → wpS P ops k n0 l r e M K →
    ∃ T e' M', T.map (·.i) = List.range' s l.length ∧ Chain T e M e' M' ∧ (∀ t, t ∈ T → t.Ok P ops) ∧ (∀ t, t ∈ T → t.cls = .read → StillOk P t.o (aev t.env) t.pre.get t.v) ∧ (∀ t d, t ∈ T → t.o.dst = some d → d < k) ∧ Ids T (n0 + r) (n0 + r + nAl P l) ∧ K e' M' := by
  intro l
  induction l with
  | nil => intro r e M s _ h; exact ⟨[], e, M, rfl, ⟨rfl, rfl⟩, by simp, by simp, by simp, Ids.nil _ _, h⟩
  | cons o l ih =>
    intro r e M s hops h
    have ho : ops[s]? = some o := hops 0 o rfl
    have hops' : ∀ j o, l[j]? = some o → ops[s + 1 + j]? = some o := fun j o' hj => by have := hops (j + 1) o' (by simpa using hj); rwa [show s + (j + 1) = s + 1 + j by omega] at this
    simp only [wpS] at h
    cases hd : dstLt k o.dst with
    | false => simp [hd] at h
    | true =>
      simp only [hd, cond_true] at h
      have hke := kind_eff (P := P) (o := o)
      have hka := kind_alloc (P := P) (o := o)
      -- one step more
      have more : ∀ (cls : Cls) (v : Value) (M₁ : Mem) (r' : Nat), Tk.Ok P ops ⟨s, o, e, M, cls, v, M₁⟩ → (cls = .read → StillOk P o (aev e) M.get v) → (∀ hi T, Ids T (n0 + r') hi → n0 + r' + nAl P l ≤ hi → hi = n0 + r + nAl P (o :: l) → Ids (⟨s, o, e, M, cls, v, M₁⟩ :: T) (n0 + r) hi) →
          (n0 + r' + nAl P l = n0 + r + nAl P (o :: l) ∨ n0 + r' + nAl P l + 1 = n0 + r + nAl P (o :: l) + 1) → wpS P ops k n0 l r' (e.put o.dst v) M₁ K →
          ∃ T e' M', T.map (·.i) = List.range' s (o :: l).length ∧ Chain T e M e' M' ∧ (∀ t, t ∈ T → t.Ok P ops) ∧ (∀ t, t ∈ T → t.cls = .read → StillOk P t.o (aev t.env) t.pre.get t.v) ∧ (∀ t d, t ∈ T → t.o.dst = some d → d < k) ∧ Ids T (n0 + r) (n0 + r + nAl P (o :: l)) ∧ K e' M' := by
        intro cls v M₁ r' hok hrd hids hr' hw
        obtain ⟨T, e', M', q1, q2, q3, q4, q5, q6, q7⟩ := ih r' _ M₁ (s + 1) hops' hw
        refine ⟨⟨s, o, e, M, cls, v, M₁⟩ :: T, e', M', by simp [q1, List.range'_succ], ⟨rfl, rfl, q2⟩, ?_, ?_, ?_, ?_, q7⟩
        · intro t ht; rcases List.mem_cons.1 ht with rfl | ht; exact hok; exact q3 t ht
        · intro t ht hc; rcases List.mem_cons.1 ht with rfl | ht; exact hrd hc; exact q4 t ht hc
        · intro t d ht hc; rcases List.mem_cons.1 ht with rfl | ht; exact dstLt_spec hd d hc; exact q5 t d ht hc
        · refine hids _ T ?_ ?_ rfl
          · have : n0 + r' + nAl P l = n0 + r + nAl P (o :: l) := by omega
            rw [← this]; exact q6
          · omega
      cases hw : wantA ops e o with
      | none => simp [hw] at h
      | some b =>
        simp only [hw] at h
        cases b with
        | false =>
          simp only at h
          have hok : Tk.Ok P ops ⟨s, o, e, M, .skip, undef, M⟩ := ⟨ho, fun _ => .inl rfl, hw, rfl, rfl⟩
          cases hk : kindOf P o with
          | alloc =>
            simp only [hk] at h
            exact more .skip undef M (r + 1) hok (fun h => by cases h) (fun hi T hI _ _ => hI.skip (by omega) (Nat.le_refl _) (by simp)) (by left; simp only [nAl, hk]; omega) h
          | _ =>
            simp only [hk] at h
            exact more .skip undef M r hok (fun h => by cases h) (fun hi T hI _ _ => hI.skip (by omega) (Nat.le_refl _) (by simp)) (by left; simp only [nAl, hk]) h
        | true =>
          simp only at h
          cases hk : kindOf P o with
          | pure =>
            simp only [hk] at h
            split at h
            · rename_i v hv
              exact more .pure v M r ⟨ho, fun h => (by rw [hke, hk] at h; cases h), hw, pureV_known hv, pureV_ok hv, rfl⟩ (fun h => by cases h) (fun hi T hI _ _ => hI.skip (by omega) (Nat.le_refl _) (by simp)) (by left; simp only [nAl, hk]) h
            · exact h.elim
          | read =>
            simp only [hk] at h
            split at h
            · rename_i v hv
              exact more .read v M r ⟨ho, fun h => (by rw [hke, hk] at h; cases h), hw, readV_known hv, rfl⟩ (fun _ => readV_ok hv) (fun hi T hI _ _ => hI.skip (by omega) (Nat.le_refl _) (by simp)) (by left; simp only [nAl, hk]) h
            · exact h.elim
          | alloc =>
            simp only [hk] at h
            split at h
            · rename_i b mk hv
              exact more (.alloc (n0 + r) b) (mk (n0 + r)) (M.put (n0 + r) b) (r + 1) ⟨ho, fun h => (by rw [hke, hk] at h; cases h), hw, allocA_known hv, by rw [hka, hk]; rfl, ⟨mk, rfl, allocA_ok hv⟩, rfl⟩ (fun h => by cases h)
                (fun hi T hI hle heq => Ids.alloc (by rwa [show n0 + (r + 1) = n0 + r + 1 by omega] at hI) (by simp only [nAl, hk] at heq; omega) rfl) (by left; simp only [nAl, hk]; omega) h
            · exact h.elim
          | eff =>
            simp only [hk] at h
            split at h
            · rename_i v M₁ hv
              exact more .eff v M₁ r ⟨ho, fun _ => .inr rfl, hw, effV_known hv, by rw [hke, hk]; rfl, effV_ok hv⟩ (fun h => by cases h) (fun hi T hI _ _ => hI.skip (by omega) (Nat.le_refl _) (by simp)) (by left; simp only [nAl, hk]) h
            · exact h.elim
          | call =>
            simp only [hk] at h
            split at h
            · rename_i f args hv
              obtain ⟨v, M₁, hc, h⟩ := h
              exact more .eff v M₁ r ⟨ho, fun _ => .inr rfl, hw, callOf_known hv, by rw [hke, hk]; rfl, call_ok hv hc⟩ (fun h => by cases h) (fun hi T hI _ _ => hI.skip (by omega) (Nat.le_refl _) (by simp)) (by left; simp only [nAl, hk]) h
            · obtain ⟨v, M₁, hkn, he, h⟩ := h
              exact more .eff v M₁ r ⟨ho, fun _ => .inr rfl, hw, hkn, by rw [hke, hk]; rfl, he⟩ (fun h => by cases h) (fun hi T hI _ _ => hI.skip (by omega) (Nat.le_refl _) (by simp)) (by left; simp only [nAl, hk]) h

theorem AWP.region {P : Program} {r : Option Nat} {k id : Nat} {ops : Array Oper} {s : St} {Q : Exit → St → Prop}
    (h : wpS P ops k s.mem.next ops.toList 0 s.env (s.mem.bump (nAl P ops.toList)) fun e M => Q .normal ⟨e, M, s.dfr⟩) : AWP P r k (.region id ops false) s Q := by
  obtain ⟨T, e', M', q1, q2, q3, q4, q5, q6, q7⟩ := wpS_trace ops.toList 0 s.env _ 0 (fun j o hj => by simpa using hj) h
  refine ⟨.normal, ⟨e', M', s.dfr⟩, ARun.region_seq (nA := nAl P ops.toList) (T := T) (by rw [q1, List.range_eq_range']; simp) q5 ?_ q3 q2 q4, q7⟩
  intro A t C i b hT hc
  exact q6 A t C i b hT hc
end Go.Proofs.YtopblipficpilaaGreatDoor.AY

/- The layer, eighteenth part: a region's rule for the walk, in any order. -/
namespace Go.Proofs.YtopblipficpilaaGreatDoor.AY
open Go
set_option linter.unusedVariables false
set_option linter.unusedSimpArgs false

def inP (U : List (Nat × Nat)) (i j : Nat) : Bool := U.any fun p => Nat.beq p.1 i && Nat.beq p.2 j
/-- a memory, with what an operation surely finds made -/
def withA (A : List (Nat × Nat)) : List (Nat × Nat × Blk) → Nat → Mm → Mm
  | [], _, m => m
  | (j, id, b) :: al, i, m => bif inP A j i then updM (withA A al i m) id b else withA A al i m
def allLog (U : List (Nat × Nat)) (i : Nat) (f : Mem → Prop) : List (Nat × Mem) → Prop
  | [] => True
  | (j, B) :: l => (inP U i j = true → f B) ∧ allLog U i f l
def allRl (P : Program) (U : List (Nat × Nat)) (j : Nat) (m : Mm) : List (Nat × Oper × Env × Value) → Prop
  | [] => True
  | (i, o, e, v) :: l => (inP U i j = true → readV P (aev e) m o = some v) ∧ allRl P U j m l

/-- operations in any order -/
def wpD (P : Program) (ops : Array Oper) (k n0 : Nat) (A U : List (Nat × Nat)) : List (Nat × Oper) → Nat → Env → Mem → Mem → List (Nat × Nat × Blk) → List (Nat × Mem) → List (Nat × Oper × Env × Value) → (Env → Mem → Prop) → Prop
  | [], _, e, M, _, _, _, _, K => K e M
  | (i, o) :: l, r, e, M, B, al, log, rl, K => match wantA ops e o with
    | none => False
    | some false => match kindOf P o with
      | .alloc => wpD P ops k n0 A U l (r + 1) (e.put o.dst undef) M B al log rl K
      | .eff => allRl P U i M.get rl ∧ wpD P ops k n0 A U l r (e.put o.dst undef) M M [] ((i, B) :: log) rl K
      | .call => allRl P U i M.get rl ∧ wpD P ops k n0 A U l r (e.put o.dst undef) M M [] ((i, B) :: log) rl K
      | _ => wpD P ops k n0 A U l r (e.put o.dst undef) M B al log rl K
    | some true => match kindOf P o with
      | .pure => match pureV P (aev e) o with
        | some v => wpD P ops k n0 A U l r (e.put o.dst v) M B al log rl K
        | none => False
      | .read => match readV P (aev e) (withA A al i B.get) o with
        | some v => allLog U i (fun B' => readV P (aev e) (withA A al i B'.get) o = some v) log ∧ wpD P ops k n0 A U l r (e.put o.dst v) M B al log ((i, o, e, v) :: rl) K
        | none => False
      | .alloc => match allocA P (aev e) o.op with
        | some (b, mk) => wpD P ops k n0 A U l (r + 1) (e.put o.dst (mk (n0 + r))) (M.put (n0 + r) b) B ((i, n0 + r, b) :: al) log rl K
        | none => False
      | .eff => match effV P (aev e) M o with
        | some (v, M') => allRl P U i M'.get rl ∧ wpD P ops k n0 A U l r (e.put o.dst v) M' M' [] ((i, B) :: log) rl K
        | none => False
      | .call => match callOf P (aev e) o with
        | some (f, args) => ∃ v M', ACall P f args M v M' ∧ allRl P U i M'.get rl ∧ wpD P ops k n0 A U l r (e.put o.dst v) M' M' [] ((i, B) :: log) rl K
        | none => ∃ v M', Known (aev e) o ∧ EffOk P o (aev e) M v M' ∧ allRl P U i M'.get rl ∧ wpD P ops k n0 A U l r (e.put o.dst v) M' M' [] ((i, B) :: log) rl K

def rlOf (t : Tk) : Nat × Oper × Env × Value := (t.i, t.o, t.env, t.v)

/-- what holds of the reads of a row of steps -/
def RdOk (P : Program) (A U : List (Nat × Nat)) : List Tk → Mem → List (Nat × Nat × Blk) → List (Nat × Mem) → List Tk → Prop
  | [], _, _, _, _ => True
  | t :: T, B, al, log, rl =>
    (t.cls = .read → StillOk P t.o (aev t.env) (withA A al t.i B.get) t.v ∧ ∀ x, x ∈ log → inP U t.i x.1 = true → StillOk P t.o (aev t.env) (withA A al t.i x.2.get) t.v) ∧
    (isEff t.o = true → ∀ u, u ∈ rl → inP U u.i t.i = true → StillOk P u.o (aev u.env) t.post.get u.v) ∧
    RdOk P A U T (if isEff t.o then t.post else B) (if isEff t.o then [] else match t.cls with | .alloc id b => (t.i, id, b) :: al | _ => al) (if isEff t.o then (t.i, B) :: log else log) (match t.cls with | .read => t :: rl | _ => rl)

theorem allLog_spec {U : List (Nat × Nat)} {i : Nat} {f : Mem → Prop} {l : List (Nat × Mem)} (h : allLog U i f l) (x : Nat × Mem) (hx : x ∈ l) (hu : inP U i x.1 = true) : f x.2 := by
  induction l with
  | nil => cases hx
  | cons y l ih =>
    obtain ⟨j, B⟩ := y
    rcases List.mem_cons.1 hx with rfl | hx
    · exact h.1 hu
    · exact ih h.2 hx
theorem allRl_spec {P : Program} {U : List (Nat × Nat)} {j : Nat} {m : Mm} {l : List Tk} (h : allRl P U j m (l.map rlOf)) (u : Tk) (hu : u ∈ l) (hp : inP U u.i j = true) : readV P (aev u.env) m u.o = some u.v := by
  induction l with
  | nil => cases hu
  | cons y l ih =>
    rcases List.mem_cons.1 hu with rfl | hu
    · exact h.1 hp
    · exact ih h.2 hu

theorem wpD_trace {P : Program} {ops : Array Oper} {k n0 : Nat} {A U : List (Nat × Nat)} {K : Env → Mem → Prop} : ∀ (l : List (Nat × Oper)) (r : Nat) (e : Env) (M B : Mem) (al : List (Nat × Nat × Blk)) (log : List (Nat × Mem)) (rl : List Tk),
    (∀ p, p ∈ l → ops[p.1]? = some p.2) → wpD P ops k n0 A U l r e M B al log (rl.map rlOf) K →
    ∃ T e' M', T.map (·.i) = l.map (·.1) ∧ Chain T e M e' M' ∧ (∀ t, t ∈ T → t.Ok P ops) ∧ RdOk P A U T B al log rl ∧ Ids T (n0 + r) (n0 + r + nAl P (l.map (·.2))) ∧ (∀ t, t ∈ T → t.cls = .read → kindOf P t.o = .read) ∧ K e' M' := by
  intro l
  induction l with
  | nil => intro r e M B al log rl _ h; exact ⟨[], e, M, rfl, ⟨rfl, rfl⟩, by simp, trivial, Ids.nil _ _, by simp, h⟩
  | cons p l ih =>
    intro r e M B al log rl hops h
    obtain ⟨i, o⟩ := p
    have ho : ops[i]? = some o := hops (i, o) (by simp)
    have hops' : ∀ p, p ∈ l → ops[p.1]? = some p.2 := fun p hp => hops p (by simp [hp])
    simp only [wpD] at h
    have hke := kind_eff (P := P) (o := o)
    have hka := kind_alloc (P := P) (o := o)
    have more : ∀ (cls : Cls) (v : Value) (M₁ : Mem) (r' : Nat) (B' : Mem) (al' : List (Nat × Nat × Blk)) (log' : List (Nat × Mem)) (rl' : List Tk), Tk.Ok P ops ⟨i, o, e, M, cls, v, M₁⟩ →
        (cls = .read → kindOf P o = .read) → (cls = .read → StillOk P o (aev e) (withA A al i B.get) v ∧ ∀ x, x ∈ log → inP U i x.1 = true → StillOk P o (aev e) (withA A al i x.2.get) v) →
        (isEff o = true → ∀ u, u ∈ rl → inP U u.i i = true → StillOk P u.o (aev u.env) M₁.get u.v) →
        B' = (if isEff o then M₁ else B) → al' = (if isEff o then [] else match cls with | .alloc id b => (i, id, b) :: al | _ => al) → log' = (if isEff o then (i, B) :: log else log) → rl' = (match cls with | .read => ⟨i, o, e, M, cls, v, M₁⟩ :: rl | _ => rl) →
        (∀ hi T, Ids T (n0 + r') hi → n0 + r' + nAl P (l.map (·.2)) ≤ hi → hi = n0 + r + nAl P (o :: l.map (·.2)) → Ids (⟨i, o, e, M, cls, v, M₁⟩ :: T) (n0 + r) hi) → n0 + r' + nAl P (l.map (·.2)) = n0 + r + nAl P (o :: l.map (·.2)) →
        wpD P ops k n0 A U l r' (e.put o.dst v) M₁ B' al' log' (rl'.map rlOf) K →
        ∃ T e' M', T.map (·.i) = ((i, o) :: l).map (·.1) ∧ Chain T e M e' M' ∧ (∀ t, t ∈ T → t.Ok P ops) ∧ RdOk P A U T B al log rl ∧ Ids T (n0 + r) (n0 + r + nAl P (((i, o) :: l).map (·.2))) ∧ (∀ t, t ∈ T → t.cls = .read → kindOf P t.o = .read) ∧ K e' M' := by
      intro cls v M₁ r' B' al' log' rl' hok hkr hrd hef hB hal hlog hrl hids hr' hw
      obtain ⟨T, e', M', q1, q2, q3, q4, q5, q7, q6⟩ := ih r' _ M₁ B' al' log' rl' hops' hw
      subst hB hal hlog hrl
      refine ⟨⟨i, o, e, M, cls, v, M₁⟩ :: T, e', M', by simp [q1], ⟨rfl, rfl, q2⟩, ?_, ⟨hrd, hef, q4⟩, ?_, ?_, q6⟩
      · intro t ht; rcases List.mem_cons.1 ht with rfl | ht; exact hok; exact q3 t ht
      · refine hids _ T ?_ ?_ rfl
        · show Ids T (n0 + r') (n0 + r + nAl P (o :: l.map (·.2)))
          rw [← hr']; exact q5
        · show n0 + r' + nAl P (l.map (·.2)) ≤ n0 + r + nAl P (o :: l.map (·.2))
          omega
      · intro t ht hc; rcases List.mem_cons.1 ht with rfl | ht; exact hkr hc; exact q7 t ht hc
    cases hw : wantA ops e o with
    | none => simp [hw] at h
    | some b =>
      simp only [hw] at h
      cases b with
      | false =>
        simp only at h
        have hok : Tk.Ok P ops ⟨i, o, e, M, .skip, undef, M⟩ := ⟨ho, fun _ => .inl rfl, hw, rfl, rfl⟩
        have hskip : ∀ r', r ≤ r' → ∀ hi T, Ids T (n0 + r') hi → n0 + r' + nAl P (l.map (·.2)) ≤ hi → hi = n0 + r + nAl P (o :: l.map (·.2)) → Ids (⟨i, o, e, M, .skip, undef, M⟩ :: T) (n0 + r) hi := fun r' hr' hi T hI _ _ => hI.skip (by omega) (Nat.le_refl _) (by simp)
        cases hk : kindOf P o with
        | alloc =>
          have hE : isEff o = false := by rw [hke, hk]; rfl
          simp only [hk] at h
          exact more .skip undef M (r + 1) B al log rl hok (fun h => by cases h) (fun h => by cases h) (fun h => by rw [hE] at h; cases h) (by simp [hE]) (by simp [hE]) (by simp [hE]) rfl (hskip (r + 1) (by omega)) (by simp only [nAl, hk]; omega) h
        | pure =>
          have hE : isEff o = false := by rw [hke, hk]; rfl
          simp only [hk] at h
          exact more .skip undef M r B al log rl hok (fun h => by cases h) (fun h => by cases h) (fun h => by rw [hE] at h; cases h) (by simp [hE]) (by simp [hE]) (by simp [hE]) rfl (hskip r (Nat.le_refl _)) (by simp only [nAl, hk]) h
        | read =>
          have hE : isEff o = false := by rw [hke, hk]; rfl
          simp only [hk] at h
          exact more .skip undef M r B al log rl hok (fun h => by cases h) (fun h => by cases h) (fun h => by rw [hE] at h; cases h) (by simp [hE]) (by simp [hE]) (by simp [hE]) rfl (hskip r (Nat.le_refl _)) (by simp only [nAl, hk]) h
        | eff =>
          have hE : isEff o = true := by rw [hke, hk]; rfl
          simp only [hk] at h
          exact more .skip undef M r M [] ((i, B) :: log) rl hok (fun h => by cases h) (fun h => by cases h) (fun _ u hu hp => readV_ok (allRl_spec h.1 u hu hp)) (by simp [hE]) (by simp [hE]) (by simp [hE]) rfl (hskip r (Nat.le_refl _)) (by simp only [nAl, hk]) h.2
        | call =>
          have hE : isEff o = true := by rw [hke, hk]; rfl
          simp only [hk] at h
          exact more .skip undef M r M [] ((i, B) :: log) rl hok (fun h => by cases h) (fun h => by cases h) (fun _ u hu hp => readV_ok (allRl_spec h.1 u hu hp)) (by simp [hE]) (by simp [hE]) (by simp [hE]) rfl (hskip r (Nat.le_refl _)) (by simp only [nAl, hk]) h.2
      | true =>
        simp only at h
        cases hk : kindOf P o with
        | pure =>
          have hE : isEff o = false := by rw [hke, hk]; rfl
          simp only [hk] at h
          split at h
          · rename_i v hv
            exact more .pure v M r B al log rl ⟨ho, fun h => (by rw [hE] at h; cases h), hw, pureV_known hv, pureV_ok hv, rfl⟩ (fun h => by cases h) (fun h => by cases h) (fun h => by rw [hE] at h; cases h) (by simp [hE]) (by simp [hE]) (by simp [hE]) rfl
              (fun hi T hI _ _ => hI.skip (by omega) (Nat.le_refl _) (by simp)) (by simp only [nAl, hk]) h
          · exact h.elim
        | read =>
          have hE : isEff o = false := by rw [hke, hk]; rfl
          simp only [hk] at h
          split at h
          · rename_i v hv
            exact more .read v M r B al log (⟨i, o, e, M, .read, v, M⟩ :: rl) ⟨ho, fun h => (by rw [hE] at h; cases h), hw, readV_known hv, rfl⟩ (fun _ => hk) (fun _ => ⟨readV_ok hv, fun x hx hu => readV_ok (allLog_spec h.1 x hx hu)⟩) (fun h => by rw [hE] at h; cases h)
              (by simp [hE]) (by simp [hE]) (by simp [hE]) rfl (fun hi T hI _ _ => hI.skip (by omega) (Nat.le_refl _) (by simp)) (by simp only [nAl, hk]) h.2
          · exact h.elim
        | alloc =>
          have hE : isEff o = false := by rw [hke, hk]; rfl
          simp only [hk] at h
          split at h
          · rename_i b mk hv
            exact more (.alloc (n0 + r) b) (mk (n0 + r)) (M.put (n0 + r) b) (r + 1) B ((i, n0 + r, b) :: al) log rl ⟨ho, fun h => (by rw [hE] at h; cases h), hw, allocA_known hv, by rw [hka, hk]; rfl, ⟨mk, rfl, allocA_ok hv⟩, rfl⟩ (fun h => by cases h) (fun h => by cases h) (fun h => by rw [hE] at h; cases h)
              (by simp [hE]) (by simp [hE]) (by simp [hE]) rfl (fun hi T hI hle heq => Ids.alloc (by rwa [show n0 + (r + 1) = n0 + r + 1 by omega] at hI) (by simp only [nAl, hk] at heq; omega) rfl) (by simp only [nAl, hk]; omega) h
          · exact h.elim
        | eff =>
          have hE : isEff o = true := by rw [hke, hk]; rfl
          simp only [hk] at h
          split at h
          · rename_i v M₁ hv
            exact more .eff v M₁ r M₁ [] ((i, B) :: log) rl ⟨ho, fun _ => .inr rfl, hw, effV_known hv, hE, effV_ok hv⟩ (fun h => by cases h) (fun h => by cases h) (fun _ u hu hp => readV_ok (allRl_spec h.1 u hu hp)) (by simp [hE]) (by simp [hE]) (by simp [hE]) rfl
              (fun hi T hI _ _ => hI.skip (by omega) (Nat.le_refl _) (by simp)) (by simp only [nAl, hk]) h.2
          · exact h.elim
        | call =>
          have hE : isEff o = true := by rw [hke, hk]; rfl
          simp only [hk] at h
          split at h
          · rename_i f args hv
            obtain ⟨v, M₁, hc, h1, h⟩ := h
            exact more .eff v M₁ r M₁ [] ((i, B) :: log) rl ⟨ho, fun _ => .inr rfl, hw, callOf_known hv, hE, call_ok hv hc⟩ (fun h => by cases h) (fun h => by cases h) (fun _ u hu hp => readV_ok (allRl_spec h1 u hu hp)) (by simp [hE]) (by simp [hE]) (by simp [hE]) rfl
              (fun hi T hI _ _ => hI.skip (by omega) (Nat.le_refl _) (by simp)) (by simp only [nAl, hk]) h
          · obtain ⟨v, M₁, hkn, he, h1, h⟩ := h
            exact more .eff v M₁ r M₁ [] ((i, B) :: log) rl ⟨ho, fun _ => .inr rfl, hw, hkn, hE, he⟩ (fun h => by cases h) (fun h => by cases h) (fun _ u hu hp => readV_ok (allRl_spec h1 u hu hp)) (by simp [hE]) (by simp [hE]) (by simp [hE]) rfl
              (fun hi T hI _ _ => hI.skip (by omega) (Nat.le_refl _) (by simp)) (by simp only [nAl, hk]) h

/-! ### what a region's form tells -/
def opAt (ops : Array Oper) (i : Nat) : Oper := (ops[i]?).getD default
def directs (o : Oper) : List Nat := (o.after.toList.filter (Region.binds .any)).map (·.on)
def amOf (msk : List Nat) (i j : Nat) : Bool := (msk.getD j 0).testBit i
def okMask (ops : Array Oper) (msk : List Nat) : Bool := (List.range ops.size).all fun j => (List.range ops.size).all fun i => !amOf msk i j || (directs (opAt ops j)).any fun d => Nat.beq d i || (decide (d < j) && amOf msk i d)
def dstsDiffer (a b : Oper) : Bool := match a.dst, b.dst with
  | some s, some t => !(Nat.beq s t)
  | _, _ => true
def lookOk (ops : Array Oper) (msk : List Nat) (u t : Nat) : Bool := match (opAt ops u).dst with
  | some s => !((opAt ops t).looksAt ops).contains s || amOf msk u t || amOf msk t u
  | none => true
def isRd (P : Program) (o : Oper) : Bool := match kindOf P o with
  | .read => true
  | _ => false
def okPair (P : Program) (ops : Array Oper) (msk : List Nat) (U : List (Nat × Nat)) (u t : Nat) : Bool :=
  !(Nat.beq u t) && dstsDiffer (opAt ops u) (opAt ops t) && (!(isEff (opAt ops t)) || !(isEff (opAt ops u) || isAlloc P (opAt ops u)) || amOf msk u t) && lookOk ops msk u t && lookOk ops msk t u &&
  (!(isRd P (opAt ops u) && isEff (opAt ops t)) || inP U u t || amOf msk u t) && (!(isEff (opAt ops u) && isRd P (opAt ops t)) || inP U t u || amOf msk u t)
def okOrd (P : Program) (ops : Array Oper) (msk : List Nat) (U : List (Nat × Nat)) : List Nat → Bool
  | [] => true
  | u :: l => l.all (okPair P ops msk U u) && okOrd P ops msk U l
def okTopo (ops : Array Oper) : List Nat → List Nat → Bool
  | _, [] => true
  | seen, u :: l => (directs (opAt ops u)).all (fun d => seen.contains d) && okTopo ops (u :: seen) l
def okReg (P : Program) (k : Nat) (ops : Array Oper) (ord msk : List Nat) (A U : List (Nat × Nat)) : Bool :=
  Nat.beq ord.length ops.size && (List.range ops.size).all (fun i => ord.contains i) && ord.all (fun i => decide (i < ops.size)) && okTopo ops [] ord && okOrd P ops msk U ord && okMask ops msk && A.all (fun p => amOf msk p.1 p.2) && ord.all (fun i => dstLt k (opAt ops i).dst)

theorem okMask_spec {ops : Array Oper} {msk : List Nat} (h : okMask ops msk = true) : ∀ j, j < ops.size → ∀ i, i < ops.size → amOf msk i j = true → Anc ops i j := by
  intro j
  induction j using Nat.strongRecOn with
  | _ j ih =>
    intro hj i hi ham
    unfold okMask at h
    rw [List.all_eq_true] at h
    have h1 := h j (List.mem_range.2 hj)
    rw [List.all_eq_true] at h1
    have h2 := h1 i (List.mem_range.2 hi)
    rw [ham] at h2
    simp only [Bool.not_true, Bool.false_or, List.any_eq_true] at h2
    obtain ⟨d, hd, hc⟩ := h2
    have hdir : Direct ops d j := by
      unfold directs at hd
      rw [List.mem_map] at hd
      obtain ⟨e, he, rfl⟩ := hd
      rw [List.mem_filter] at he
      refine ⟨opAt ops j, by simp [opAt, hj], e, by simpa using he.1, he.2, rfl⟩
    rw [Bool.or_eq_true] at hc
    rcases hc with hc | hc
    · rw [beq_iff] at hc
      have : d = i := by simpa using hc
      exact .one (this ▸ hdir)
    · rw [Bool.and_eq_true] at hc
      have hdj : d < j := by simpa using hc.1
      exact .more (ih d hdj (by omega) i hi hc.2) hdir

theorem okOrd_spec {P : Program} {ops : Array Oper} {msk : List Nat} {U : List (Nat × Nat)} : ∀ {l : List Nat}, okOrd P ops msk U l = true → ∀ A t C, l = A ++ t :: C → ∀ u, u ∈ A → okPair P ops msk U u t = true := by
  intro l
  induction l with
  | nil => intro _ A t C h; simp at h
  | cons x l ih =>
    intro h A t C hl u hu
    simp only [okOrd, Bool.and_eq_true] at h
    cases A with
    | nil => cases hu
    | cons a A =>
      simp at hl
      obtain ⟨rfl, rfl⟩ := hl
      rcases List.mem_cons.1 hu with rfl | hu
      · exact List.all_eq_true.1 h.1 t (by simp)
      · exact ih h.2 A t C rfl u hu
theorem okTopo_spec {ops : Array Oper} : ∀ {l seen : List Nat}, okTopo ops seen l = true → ∀ A t C, l = A ++ t :: C → ∀ d, d ∈ directs (opAt ops t) → d ∈ seen ∨ d ∈ A := by
  intro l
  induction l with
  | nil => intro seen _ A t C h; simp at h
  | cons x l ih =>
    intro seen h A t C hl d hd
    simp only [okTopo, Bool.and_eq_true] at h
    cases A with
    | nil =>
      simp at hl
      obtain ⟨rfl, rfl⟩ := hl
      exact .inl (by simpa using List.all_eq_true.1 h.1 d hd)
    | cons a A =>
      simp at hl
      obtain ⟨rfl, rfl⟩ := hl
      rcases ih h.2 A t C rfl d hd with h' | h'
      · rcases List.mem_cons.1 h' with rfl | h'
        · exact .inr (by simp)
        · exact .inl h'
      · exact .inr (by simp [h'])
end Go.Proofs.YtopblipficpilaaGreatDoor.AY

/- The layer, nineteenth part: a region's rule for the walk, in any order: the proof. -/
namespace Go.Proofs.YtopblipficpilaaGreatDoor.AY
open Go
set_option linter.unusedVariables false
set_option linter.unusedSimpArgs false

def stB (B : Mem) : List Tk → Mem
  | [] => B
  | t :: T => stB (if isEff t.o then t.post else B) T
def stAl (al : List (Nat × Nat × Blk)) : List Tk → List (Nat × Nat × Blk)
  | [] => al
  | t :: T => stAl (if isEff t.o then [] else match t.cls with | .alloc id b => (t.i, id, b) :: al | _ => al) T
def stLog (B : Mem) (log : List (Nat × Mem)) : List Tk → List (Nat × Mem)
  | [] => log
  | t :: T => stLog (if isEff t.o then t.post else B) (if isEff t.o then (t.i, B) :: log else log) T
def stRl (rl : List Tk) : List Tk → List Tk
  | [] => rl
  | t :: T => stRl (match t.cls with | .read => t :: rl | _ => rl) T

theorem RdOk.split {P : Program} {A U : List (Nat × Nat)} : ∀ {T1 T2 : List Tk} {B : Mem} {al : List (Nat × Nat × Blk)} {log : List (Nat × Mem)} {rl : List Tk}, RdOk P A U (T1 ++ T2) B al log rl → RdOk P A U T2 (stB B T1) (stAl al T1) (stLog B log T1) (stRl rl T1)
  | [], _, _, _, _, _, h => h
  | t :: T1, T2, B, al, log, rl, h => RdOk.split (T1 := T1) h.2.2
theorem stB_append (T1 T2 : List Tk) : ∀ B, stB B (T1 ++ T2) = stB (stB B T1) T2 := by
  induction T1 with
  | nil => intro B; rfl
  | cons t T1 ih => intro B; exact ih _
theorem stB_noeff {T : List Tk} (h : ∀ t, t ∈ T → isEff t.o = false) : ∀ B, stB B T = B := by
  induction T with
  | nil => intro B; rfl
  | cons t T ih =>
    intro B
    simp only [stB, h t (by simp), Bool.false_eq_true, if_false]
    exact ih (fun u hu => h u (by simp [hu])) B
theorem stB_last {X : List Tk} (h : lastEff X) (B : Mem) : stB B X = bound B X := by
  rcases h with rfl | ⟨A, t, rfl, hE⟩
  · rfl
  · rw [bound_snoc, stB_append]
    simp [stB, hE]
theorem stAl_append (T1 T2 : List Tk) : ∀ al, stAl al (T1 ++ T2) = stAl (stAl al T1) T2 := by
  induction T1 with
  | nil => intro al; rfl
  | cons t T1 ih => intro al; exact ih _
theorem stAl_sub {T : List Tk} : ∀ {al : List (Nat × Nat × Blk)} {x : Nat × Nat × Blk}, x ∈ stAl al T → x ∈ al ∨ ∃ t, t ∈ T ∧ t.cls = .alloc x.2.1 x.2.2 ∧ t.i = x.1 := by
  induction T with
  | nil => intro al x h; exact .inl h
  | cons t T ih =>
    intro al x h
    rcases ih h with h | ⟨u, hu, hc⟩
    · cases hE : isEff t.o with
      | true => simp [hE] at h
      | false =>
        simp only [hE, Bool.false_eq_true, if_false] at h
        cases hc : t.cls with
        | alloc id b =>
          simp only [hc] at h
          rcases List.mem_cons.1 h with rfl | h
          · exact .inr ⟨t, by simp, hc, rfl⟩
          · exact .inl h
        | skip => simp only [hc] at h; exact .inl h
        | pure => simp only [hc] at h; exact .inl h
        | read => simp only [hc] at h; exact .inl h
        | eff => simp only [hc] at h; exact .inl h
    · exact .inr ⟨u, by simp [hu], hc⟩
theorem stLog_mem {T : List Tk} : ∀ {B : Mem} {log : List (Nat × Mem)} {x : Nat × Mem}, x ∈ log → x ∈ stLog B log T := by
  induction T with
  | nil => intro B log x h; exact h
  | cons t T ih =>
    intro B log x h
    refine ih ?_
    cases isEff t.o <;> simp [h]
theorem stLog_append (T1 T2 : List Tk) : ∀ B log, stLog B log (T1 ++ T2) = stLog (stB B T1) (stLog B log T1) T2 := by
  induction T1 with
  | nil => intro B log; rfl
  | cons t T1 ih => intro B log; exact ih _ _
theorem stLog_at {Z1 Z2 : List Tk} {e : Tk} (h : ∀ t, t ∈ Z1 → isEff t.o = false) (hE : isEff e.o = true) (B : Mem) (log : List (Nat × Mem)) : (e.i, B) ∈ stLog B log (Z1 ++ e :: Z2) := by
  rw [stLog_append, stB_noeff h]
  show _ ∈ stLog _ (if isEff e.o then (e.i, B) :: _ else _) Z2
  simp only [hE, if_true]
  exact stLog_mem (by simp)
theorem stRl_mem {T : List Tk} : ∀ {rl : List Tk} {x : Tk}, x ∈ rl → x ∈ stRl rl T := by
  induction T with
  | nil => intro rl x h; exact h
  | cons t T ih =>
    intro rl x h
    refine ih ?_
    cases t.cls <;> simp [h]
theorem stRl_at {T : List Tk} {t : Tk} (h : t.cls = .read) (rl : List Tk) : t ∈ stRl rl (t :: T) := by
  show t ∈ stRl (match t.cls with | .read => t :: rl | _ => rl) T
  rw [h]
  exact stRl_mem (by simp)
theorem withA_within {A : List (Nat × Nat)} {al : List (Nat × Nat × Blk)} {i : Nat} {m : Mm} : ∀ {x : Nat} {b : Blk}, withA A al i m x = some b → m x = some b ∨ ∃ j, (j, x, b) ∈ al ∧ inP A j i = true := by
  induction al with
  | nil => intro x b h; exact .inl h
  | cons p al ih =>
    intro x b h
    obtain ⟨j, id, c⟩ := p
    simp only [withA] at h
    cases hp : inP A j i with
    | true =>
      simp only [hp, cond_true, updM] at h
      by_cases hx : x = id
      · subst hx; simp at h; subst h; exact .inr ⟨j, by simp, hp⟩
      · simp only [hx, if_false] at h; exact (ih h).imp (fun h => h) fun ⟨j', h1, h2⟩ => ⟨j', by simp [h1], h2⟩
    | false => simp only [hp, cond_false] at h; exact (ih h).imp (fun h => h) fun ⟨j', h1, h2⟩ => ⟨j', by simp [h1], h2⟩
theorem inP_mem {U : List (Nat × Nat)} {i j : Nat} (h : inP U i j = true) : (i, j) ∈ U := by
  unfold inP at h
  rw [List.any_eq_true] at h
  obtain ⟨p, hp, hc⟩ := h
  rw [Bool.and_eq_true, beq_iff, beq_iff] at hc
  have h1 : p.1 = i := by simpa using hc.1
  have h2 : p.2 = j := by simpa using hc.2
  rw [← h1, ← h2]; exact hp

theorem reads_of {P : Program} {k : Nat} {ops : Array Oper} {A U : List (Nat × Nat)} {T : List Tk} {M0 : Mem} {am : Nat → Nat → Bool} (hst : Static P k ops T) (ham : ∀ u t, u ∈ T → t ∈ T → am u.i t.i = true → Anc ops u.i t.i) (hA : ∀ i j, inP A i j = true → am i j = true)
    (hU : ∀ X t C, T = X ++ t :: C → ∀ u, u ∈ X → (t.cls = .read → isEff u.o = true → inP U t.i u.i = true ∨ am u.i t.i = true) ∧ (u.cls = .read → isEff t.o = true → inP U u.i t.i = true ∨ am u.i t.i = true))
    (hne : ∀ t, t ∈ T → t.cls = .read → isEff t.o = false) (hrd : RdOk P A U T M0 [] [] []) : Reads P M0 T am := by
  intro t ht hc X Y hXY hlast hx hy
  rcases (show t ∈ X ++ Y by rw [← hXY]; exact ht) |> List.mem_append.1 with htX | htY
  · -- the read stands ahead of the bound
    obtain ⟨X1, X2, hX⟩ := List.append_of_mem htX
    rcases hlast with h0 | ⟨A', e, hAe, hE⟩
    · rw [h0] at htX; cases htX
    · -- X2 ends with e
      have hte : t ≠ e := by rintro rfl; rw [hne t ht hc] at hE; cases hE
      obtain ⟨X3, hX3⟩ : ∃ X3, X2 = X3 ++ [e] := by
        have h1 : X1 ++ t :: X2 = A' ++ [e] := by rw [← hX, hAe]
        rcases List.eq_nil_or_concat X2 with h2 | ⟨X3, z, h2⟩
        · subst h2
          have := congrArg List.getLast? h1
          simp at this
          exact absurd this hte
        · have h2' : X2 = X3 ++ [z] := by simpa using h2
          refine ⟨X3, ?_⟩
          rw [h2'] at h1 ⊢
          have h3 : (X1 ++ t :: X3) ++ [z] = A' ++ [e] := by simpa using h1
          rw [(List.append_inj' h3 rfl).2]
      have hTe : T = (X1 ++ t :: X3) ++ e :: Y := by rw [hXY, hX, hX3]; simp
      have hbound : bound M0 X = e.post := by rw [hAe, bound_snoc]
      have hr2 : RdOk P A U ((X1 ++ t :: X3) ++ e :: Y) M0 [] [] [] := hTe ▸ hrd
      have hr3 := hr2.split.2.1 hE t (by
        have : stRl [] (X1 ++ t :: X3) = stRl (stRl [] X1) (t :: X3) := by
          clear hr2 hrd hTe hX
          have : ∀ (T1 T2 : List Tk) rl, stRl rl (T1 ++ T2) = stRl (stRl rl T1) T2 := by
            intro T1 T2
            induction T1 with
            | nil => intro rl; rfl
            | cons t T1 ih => intro rl; exact ih _
          exact this _ _ _
        rw [this]; exact stRl_at hc _) (by
        rcases (hU _ e Y hTe t (by simp)).2 hc hE with h | h
        · exact h
        · exact absurd (hx e (by rw [hAe]; simp) hE) (by rw [h]; simp))
      refine ⟨e.post.get, fun i b h => .inl (by rw [hbound]; exact h), hr3⟩
  · obtain ⟨Z, T2, hY⟩ := List.append_of_mem htY
    have hTt : T = (X ++ Z) ++ t :: T2 := by rw [hXY, hY]; simp
    have hr2 : RdOk P A U ((X ++ Z) ++ t :: T2) M0 [] [] [] := hTt ▸ hrd
    obtain ⟨f1, f2⟩ := hr2.split.1 hc
    have hB : stB M0 X = bound M0 X := stB_last hlast M0
    by_cases hz : ∃ e, e ∈ Z ∧ isEff e.o = true
    · obtain ⟨Z1, e, Z2, hZ, hE, hZ1⟩ := first_of (T := Z) (p := fun t => isEff t.o = true) hz
      have hZ1' : ∀ u, u ∈ Z1 → isEff u.o = false := fun u hu => by simpa using hZ1 u hu
      have hlog : (e.i, bound M0 X) ∈ stLog M0 [] (X ++ Z) := by
        rw [stLog_append, hB, hZ]
        exact stLog_at hZ1' hE _ _
      have heX : e ∈ X ++ Z := by rw [hZ]; simp
      have hu : inP U t.i e.i = true := by
        rcases (hU _ t T2 hTt e heX).1 hc hE with h | h
        · exact h
        · exact absurd (hy e (by rw [hY, hZ]; simp) hE) (by rw [h]; simp)
      refine ⟨_, fun i b h => ?_, f2 _ hlog hu⟩
      rcases withA_within h with h | ⟨j, hj, hp⟩
      · exact .inl h
      · refine .inr ?_
        rw [hZ, ← List.append_assoc, stAl_append] at hj
        have hj' : (j, i, b) ∈ stAl [] Z2 := by
          have : stAl (stAl [] (X ++ Z1)) (e :: Z2) = stAl [] Z2 := by simp [stAl, hE]
          rw [this] at hj; exact hj
        rcases stAl_sub hj' with h | ⟨u, hu1, hu2, hu3⟩
        · cases h
        · exact ⟨u, by rw [hY, hZ]; simp [hu1], hu2, by rw [hu3]; exact hA _ _ hp⟩
    · have hZ : ∀ u, u ∈ Z → isEff u.o = false := fun u hu => by
        cases h : isEff u.o with
        | false => rfl
        | true => exact absurd ⟨u, hu, h⟩ hz
      have hBt : stB M0 (X ++ Z) = bound M0 X := by rw [stB_append, hB, stB_noeff hZ]
      rw [hBt] at f1
      refine ⟨_, fun i b h => ?_, f1⟩
      rcases withA_within h with h | ⟨j, hj, hp⟩
      · exact .inl h
      · refine .inr ?_
        rw [stAl_append] at hj
        have hX0 : stAl [] X = [] := by
          rcases hlast with rfl | ⟨A', e, rfl, hE⟩
          · rfl
          · rw [stAl_append]; simp [stAl, hE]
        rw [hX0] at hj
        rcases stAl_sub hj with h | ⟨u, hu1, hu2, hu3⟩
        · cases h
        · exact ⟨u, by rw [hY]; simp [hu1], hu2, by rw [hu3]; exact hA _ _ hp⟩

theorem AWP.regionD {P : Program} (hmo : P.follows .mixedOrders = true) {r : Option Nat} {k id : Nat} {ops : Array Oper} (ord msk : List Nat) (A U : List (Nat × Nat)) {s : St} {Q : Exit → St → Prop} (hreg : okReg P k ops ord msk A U = true)
    (h : wpD P ops k s.mem.next A U (ord.map fun i => (i, opAt ops i)) 0 s.env (s.mem.bump (nAl P (ord.map fun i => opAt ops i))) (s.mem.bump (nAl P (ord.map fun i => opAt ops i))) [] [] [] fun e M => Q .normal ⟨e, M, s.dfr⟩) : AWP P r k (.region id ops true) s Q := by
  simp only [okReg, Bool.and_eq_true] at hreg
  obtain ⟨⟨⟨⟨⟨⟨⟨hlen, hall⟩, hlt⟩, htopo⟩, hord⟩, hmask⟩, hA⟩, hdst⟩ := hreg
  rw [beq_iff] at hlen
  have hlen : ord.length = ops.size := by simpa using hlen
  have hlt' : ∀ i, i ∈ ord → i < ops.size := fun i hi => by simpa using List.all_eq_true.1 hlt i hi
  have hat : ∀ i, i ∈ ord → ops[i]? = some (opAt ops i) := fun i hi => by
    have := hlt' i hi
    simp [opAt, this]
  obtain ⟨T, e', M', q1, q2, q3, q4, q5, q7, q6⟩ := wpD_trace (ord.map fun i => (i, opAt ops i)) 0 s.env _ _ [] [] [] (fun p hp => by
    rw [List.mem_map] at hp
    obtain ⟨i, hi, rfl⟩ := hp
    exact hat i hi) h
  have q1' : T.map (·.i) = ord := by rw [q1, List.map_map]; exact List.map_id ord
  have hTi : ∀ t, t ∈ T → t.i ∈ ord := fun t ht => by rw [← q1']; exact List.mem_map.2 ⟨t, ht, rfl⟩
  have hTo : ∀ t, t ∈ T → opAt ops t.i = t.o := fun t ht => by
    have h1 := (q3 t ht).op
    have h2 := hat t.i (hTi t ht)
    rw [h1] at h2; exact (Option.some.inj h2).symm
  have hTs : ∀ X t C, T = X ++ t :: C → ord = X.map (·.i) ++ t.i :: C.map (·.i) := fun X t C hT => by rw [← q1', hT]; simp
  have hpair : ∀ X t C, T = X ++ t :: C → ∀ u, u ∈ X → okPair P ops msk U u.i t.i = true := fun X t C hT u hu =>
    okOrd_spec hord _ _ _ (hTs X t C hT) u.i (List.mem_map.2 ⟨u, hu, rfl⟩)
  have hpT : ∀ X t C, T = X ++ t :: C → ∀ u, u ∈ X → u ∈ T ∧ t ∈ T := fun X t C hT u hu => ⟨by rw [hT]; simp [hu], by rw [hT]; simp⟩
  have hanc : ∀ u t, u ∈ T → t ∈ T → amOf msk u.i t.i = true → Anc ops u.i t.i := fun u t hu ht h =>
    okMask_spec hmask t.i (hlt' _ (hTi t ht)) u.i (hlt' _ (hTi u hu)) h
  have hlooks : ∀ o s, looks ops o s → s ∈ o.looksAt ops := fun o s hl => by
    unfold Oper.looksAt
    rcases hl with hl | ⟨j, want, hg, hd⟩
    · exact List.mem_append_left _ (List.mem_filterMap.2 ⟨.tmp s, by simpa using hl, rfl⟩)
    · refine List.mem_append_right _ ?_
      simp only [hg, hd, Option.toList, List.mem_singleton]
  have look1 : ∀ u t, u ∈ T → t ∈ T → lookOk ops msk u.i t.i = true → ∀ s, u.o.dst = some s → looks ops t.o s → Anc ops u.i t.i ∨ Anc ops t.i u.i := fun u t hu ht h s hd hl => by
    unfold lookOk at h
    rw [hTo u hu, hTo t ht, hd] at h
    simp only [Bool.or_eq_true, Bool.not_eq_true'] at h
    rcases h with (h | h) | h
    · have := hlooks t.o s hl
      rw [← List.contains_iff_mem] at this
      rw [this] at h; cases h
    · exact .inl (hanc u t hu ht h)
    · exact .inr (hanc t u ht hu h)
  have hst : Static P k ops T := {
    len := by rw [← hlen, ← q1', List.length_map]
    nodup := fun X t C hT u hu => by
      have h := hpair X t C hT u hu
      simp only [okPair, Bool.and_eq_true, Bool.not_eq_true', beq_iff, decide_eq_false_iff_not] at h
      exact h.1.1.1.1.1.1
    all := fun i hi => by
      have := List.all_eq_true.1 hall i (List.mem_range.2 hi)
      rw [List.contains_iff_mem, ← q1', List.mem_map] at this
      obtain ⟨t, h1, h2⟩ := this
      exact ⟨t, h1, h2⟩
    lt := fun t ht => hlt' _ (hTi t ht)
    topo := fun X t C hT d hd => by
      have htT : t ∈ T := by rw [hT]; simp
      have hdd : d ∈ directs (opAt ops t.i) := by
        rw [hTo t htT]
        obtain ⟨o, ho, e, he, hb, rfl⟩ := hd
        rw [(q3 t htT).op] at ho; cases ho
        unfold directs
        exact List.mem_map.2 ⟨e, List.mem_filter.2 ⟨by simpa using he, hb⟩, rfl⟩
      rcases okTopo_spec htopo _ _ _ (hTs X t C hT) d hdd with h | h
      · cases h
      · obtain ⟨u, hu, hui⟩ := List.mem_map.1 h
        exact ⟨u, hu, hui⟩
    dst := fun t s ht hs => by
      have := List.all_eq_true.1 hdst t.i (hTi t ht)
      rw [hTo t ht] at this
      exact dstLt_spec this s hs
    one := fun X t C hT u hu s hs hs' => by
      have h := hpair X t C hT u hu
      simp only [okPair, Bool.and_eq_true] at h
      have h2 := h.1.1.1.1.1.2
      obtain ⟨huT, htT⟩ := hpT X t C hT u hu
      rw [hTo u huT, hTo t htT] at h2
      simp [dstsDiffer, hs, hs', beq_iff] at h2
    look := fun t u ht hu hne s hd hl => by
      obtain ⟨X, C, hT⟩ := List.append_of_mem ht
      have hu' := hu
      rw [hT] at hu'
      rcases List.mem_append.1 hu' with h | h
      · have hp := hpair X t C hT u h
        simp only [okPair, Bool.and_eq_true] at hp
        exact look1 u t hu ht hp.1.1.1.2 s hd hl
      · rcases List.mem_cons.1 h with rfl | h
        · exact absurd rfl hne
        · obtain ⟨C1, C2, hC⟩ := List.append_of_mem h
          have hp := hpair (X ++ t :: C1) u C2 (by rw [hT, hC]; simp) t (by simp)
          simp only [okPair, Bool.and_eq_true] at hp
          exact look1 u t hu ht hp.1.1.2 s hd hl
    effs := fun X t C hT hE u hu hh => by
      have h := hpair X t C hT u hu
      simp only [okPair, Bool.and_eq_true] at h
      have h2 := h.1.1.1.1.2
      obtain ⟨huT, htT⟩ := hpT X t C hT u hu
      rw [hTo u huT, hTo t htT, hE] at h2
      simp only [Bool.not_true, Bool.false_or, Bool.or_eq_true, Bool.not_eq_true', Bool.or_eq_false_iff] at h2
      rcases h2 with h2 | h2
      · rcases hh with h | h
        · rw [h2.1] at h; cases h
        · rw [h2.2] at h; cases h
      · exact hanc u t huT htT h2 }
  have hcr : ∀ t, t ∈ T → t.cls = .read → isEff t.o = false := fun t ht hc => by
    cases h : isEff t.o with
    | false => rfl
    | true => rcases (q3 t ht).kind h with h | h <;> rw [h] at hc <;> cases hc
  have hrdk : ∀ t, t ∈ T → t.cls = .read → isRd P t.o = true := fun t ht hc => by unfold isRd; rw [q7 t ht hc]
  have hU : ∀ X t C, T = X ++ t :: C → ∀ u, u ∈ X → (t.cls = .read → isEff u.o = true → inP U t.i u.i = true ∨ amOf msk u.i t.i = true) ∧ (u.cls = .read → isEff t.o = true → inP U u.i t.i = true ∨ amOf msk u.i t.i = true) := by
    intro X t C hT u hu
    have h := hpair X t C hT u hu
    simp only [okPair, Bool.and_eq_true] at h
    obtain ⟨huT, htT⟩ := hpT X t C hT u hu
    obtain ⟨⟨_, h1⟩, h2⟩ := h
    rw [hTo u huT, hTo t htT] at h1 h2
    refine ⟨fun hc hE => ?_, fun hc hE => ?_⟩
    · rw [hE, hrdk t htT hc] at h2
      simpa using h2
    · rw [hE, hrdk u huT hc] at h1
      simpa using h1
  have hAm : ∀ i j, inP A i j = true → amOf msk i j = true := fun i j h => List.all_eq_true.1 hA (i, j) (inP_mem h)
  have hreads := reads_of hst hanc hAm hU hcr q4
  have hids2 : ∀ t u i b b', t ∈ T → u ∈ T → t.cls = .alloc i b → u.cls = .alloc i b' → t.i = u.i := by
    intro t u i b b' ht hu hc hc'
    obtain ⟨X, C, hT⟩ := List.append_of_mem ht
    have hu' := hu
    rw [hT] at hu'
    rcases List.mem_append.1 hu' with h | h
    · obtain ⟨X1, X2, hX⟩ := List.append_of_mem h
      exact absurd hc ((q5 X1 u (X2 ++ t :: C) i b' (by rw [hT, hX]; simp) hc').2.2 t b (by simp))
    · rcases List.mem_cons.1 h with rfl | h
      · rfl
      · exact absurd hc' ((q5 X t C i b hT hc).2.2 u b' h)
  have hmap : (ord.map fun i => (i, opAt ops i)).map (·.2) = ord.map fun i => opAt ops i := by rw [List.map_map]; rfl
  rw [hmap] at q5
  refine ⟨.normal, ⟨e', M', s.dfr⟩, ARun.region_any hmo (nA := nAl P (ord.map fun i => opAt ops i)) hst hids2 (fun t i b ht hc => ?_) q3 q2 (am := fun i j => amOf msk i j && decide (i < ops.size) && decide (j < ops.size)) (fun i j h => ?_) ?_, q6⟩
  · obtain ⟨X, C, hT⟩ := List.append_of_mem ht
    have := q5 X t C i b hT hc
    exact ⟨this.1, this.2.1⟩
  · simp only [Bool.and_eq_true, decide_eq_true_eq] at h
    exact okMask_spec hmask j h.2 i h.1.2 h.1.1
  · intro t ht hc X Y hXY hlast hx hy
    have hlt2 : ∀ u, u ∈ T → u.i < ops.size := fun u hu => hlt' _ (hTi u hu)
    have hX : ∀ u, u ∈ X → u ∈ T := fun u hu => by rw [hXY]; simp [hu]
    have hY : ∀ u, u ∈ Y → u ∈ T := fun u hu => by rw [hXY]; simp [hu]
    obtain ⟨m, h1, h2⟩ := hreads t ht hc X Y hXY hlast (fun u hu hE => by have := hx u hu hE; simpa [hlt2 t ht, hlt2 u (hX u hu)] using this) (fun u hu hE => by have := hy u hu hE; simpa [hlt2 t ht, hlt2 u (hY u hu)] using this)
    refine ⟨m, fun i b h => (h1 i b h).imp (fun h => h) fun ⟨u, hu, hcu, ha⟩ => ⟨u, hu, hcu, ?_⟩, h2⟩
    simp [ha, hlt2 t ht, hlt2 u (hY u hu)]
end Go.Proofs.YtopblipficpilaaGreatDoor.AY

/- The layer, twentieth part: calls of functions with a body. -/
namespace Go.Proofs.YtopblipficpilaaGreatDoor.AY
open Go
set_option linter.unusedVariables false
set_option linter.unusedSimpArgs false

/-! ### results and bodies -/
def resV (P : Program) (s : St) : List ResultVar → Option (List Value)
  | [] => some []
  | .tmp t :: l => match s.env.get t, resV P s l with
    | some v, some vs => some (v :: vs)
    | _, _ => none
  | .cell a t :: l => match s.env.get a with
    | some x => match loadV P s.mem.get t x, resV P s l with
      | some v, some vs => some (v :: vs)
      | _, _ => none
    | none => none
def retV (P : Program) (rs : List ResultVar) (s : St) : Option Value := match resV P s rs with
  | some [v] => some v
  | some vs => some (.tuple vs.toArray)
  | none => none

theorem run_resV {P : Program} {ρ : Emb} {s : St} {a : Act} {w : World} (her : ER P ρ s.env a.tmps) (hhr : HR P ρ s.mem.get w) : ∀ {l : List ResultVar} {vs : List Value}, resV P s l = some vs →
    ∃ vs', (l.mapM (m := Sem) fun | .tmp t => pure (a.tmps.getD t undef) | .cell c t => do loadVar t (← asAddr (a.tmps.getD c undef))).run P w = .ok vs' w ∧ VL P ρ vs vs' := by
  intro l
  induction l with
  | nil => intro vs h; simp only [resV, Option.some.injEq] at h; subst h; exact ⟨[], by simp, .nil⟩
  | cons r l ih =>
    intro vs h
    cases r with
    | tmp t =>
      simp only [resV] at h
      split at h
      · rename_i v us h1 h2
        cases h
        obtain ⟨v', e1, e2⟩ := her t v h1
        obtain ⟨us', e3, e4⟩ := ih h2
        refine ⟨v' :: us', ?_, .cons e2 e4⟩
        rw [List.mapM_cons]
        simp only [Sem.run_bind, Sem.run_pure, Result.andThen_ok]
        rw [e3]
        simp [e1]
      · cases h
    | cell c t =>
      simp only [resV] at h
      split at h
      · rename_i x h0
        split at h
        · rename_i v us h1 h2
          cases h
          obtain ⟨x', e1, e2⟩ := her c x h0
          obtain ⟨ad, v', g1, g2, g3⟩ := run_loadVar (w := w) h1 e2 hhr
          obtain ⟨us', e3, e4⟩ := ih h2
          refine ⟨v' :: us', ?_, .cons g3 e4⟩
          rw [List.mapM_cons]
          have hx : a.tmps.getD c undef = .pointer (some ad) := by rw [← g1]; simp [e1]
          have hx2 : (asAddr (a.tmps.getD c undef)).run P w = .ok ad w := by rw [hx]; rfl
          simp only [Sem.run_bind, hx2, Sem.run_pure, Result.andThen_ok, g2]
          rw [e3]; rfl
        · cases h
      · cases h
theorem run_retV {P : Program} {ρ : Emb} {s : St} {a : Act} {w : World} (her : ER P ρ s.env a.tmps) (hhr : HR P ρ s.mem.get w) {fn : Func} {v : Value} (h : retV P fn.results.toList s = some v) :
    ∃ v', (results fn a.tmps).run P w = .ok v' w ∧ VR P ρ v v' := by
  unfold retV at h
  have key : ∀ vs, resV P s fn.results.toList = some vs → ∃ vs', (results fn a.tmps).run P w = .ok (if h : vs'.toArray.size = 1 then vs'.toArray[0] else .tuple vs'.toArray) w ∧ VL P ρ vs vs' := by
    intro vs hvs
    obtain ⟨vs', h1, h2⟩ := run_resV her hhr hvs
    refine ⟨vs', ?_, h2⟩
    unfold results
    rw [Array.mapM_eq_mapM_toList]
    simp only [Sem.run_bind, Sem.run_map]
    generalize hm : Sem.run P (List.mapM (m := Sem) _ fn.results.toList) w = res
    have : res = .ok vs' w := by rw [← hm]; exact h1
    subst this
    rfl
  split at h
  · rename_i u hu
    cases h
    obtain ⟨vs', h1, h2⟩ := key _ hu
    cases h2 with
    | cons h2 h3 => cases h3; exact ⟨_, h1, h2⟩
  · rename_i vs hn hu
    cases h
    obtain ⟨vs', h1, h2⟩ := key _ hu
    have hl := h2.length
    refine ⟨.tuple vs'.toArray, ?_, .tuple h2.vrs.1 h2.vrs.2⟩
    rw [h1, dif_neg]
    intro h
    have : vs.length = 1 := by simp at h; omega
    match vs, this with
    | [x], _ => exact hn x rfl
  · cases h

def argEnv : Nat → List Value → Env
  | _, [] => []
  | i, v :: l => (i, v) :: argEnv (i + 1) l
theorem argEnv_get {l : List Value} : ∀ {i t : Nat} {v : Value}, (argEnv i l).get t = some v → i ≤ t ∧ l[t - i]? = some v := by
  induction l with
  | nil => intro i t v h; simp [argEnv, Env.get] at h
  | cons u l ih =>
    intro i t v h
    simp only [argEnv, Env.get, beq_iff, Bool.cond_decide] at h
    by_cases hit : i = t
    · subst hit; simp only [if_true, Option.some.injEq] at h; subst h; simp
    · simp only [hit, if_false] at h
      obtain ⟨h1, h2⟩ := ih h
      refine ⟨by omega, ?_⟩
      rw [show t - i = (t - (i + 1)) + 1 by omega, List.getElem?_cons_succ]; exact h2

end Go.Proofs.YtopblipficpilaaGreatDoor.AY

/- The layer: a frame's end with deferred calls, a range over a function that runs no round, a 'defer' statement. -/
namespace Go.Proofs.YtopblipficpilaaGreatDoor.AY
open Go
set_option linter.unusedVariables false
set_option linter.unusedSimpArgs false

theorem run_invoke {P : Program} {f : FuncId} (hc : callable P f = true) (cap args : Array Value) (w : World) : (invoke (.fn (.func f) cap) args).run P w = .ok (.enter f (args ++ cap)) w := by
  unfold callable at hc
  split at hc
  · rename_i fn' hfn
    simp only [Bool.and_eq_true, Bool.not_eq_true', beq_eq_false_iff_ne, ne_eq] at hc
    obtain ⟨hb, hnm⟩ := hc
    have hbn : fn'.body.isNone = false := by cases hh : fn'.body <;> simp_all
    simp only [invoke, callFunc, run_program, Sem.run_bind, Result.andThen_ok, hfn]
    rw [if_neg (by simpa using hnm)]
    simp only [hbn, Bool.false_eq_true, if_false, Sem.run_pure]
  · cases hc

/-- a function of which the first thing that it is handed is not known, from a memory to a memory -/
def ASeq (P : Program) (f : FuncId) (lb : Array Value) (M M' : Mem) : Prop :=
  ∀ ρ w y lb', VRs P ρ lb lb' → HR P ρ M.get w → Free ρ M.next → Calls P f (#[y] ++ lb') w fun e w' => ∃ v ρ', e = .returned v ∧ HR P ρ' M'.get w' ∧ Free ρ' M'.next ∧ Grow ρ M w ρ' M' w'
/-- a function as a deferred call -/
def ADef (P : Program) (f : FuncId) (cap : Array Value) (M M' : Mem) : Prop :=
  ∀ ρ w cap' u, VRs P ρ cap cap' → HR P ρ M.get w → Free ρ M.next → CallsDIn (Fw none) 0 P f cap' u w fun e u' w' => u' = u ∧ ∃ v ρ', e = .returned v ∧ HR P ρ' M'.get w' ∧ Free ρ' M'.next ∧ Grow ρ M w ρ' M' w'

theorem alloc_old (w : World) (o : Obj) {B : Nat} (h : B < w.heap.size) : (w.alloc o).heap[B]? = w.heap[B]? := by
  show (w.heap.push o)[B]? = _
  rw [Array.getElem?_push, if_neg (by omega)]
theorem putObj_size (w : World) (B : Nat) (o : Obj) : (w.putObj B o).heap.size = w.heap.size := by simp [World.putObj]
theorem HR.allocAny {P : Program} {ρ : Emb} {m : Mm} {w : World} (h : HR P ρ m w) (o : Obj) : HR P ρ m (w.alloc o) :=
  ⟨fun i b hi => let ⟨f, hf, ho⟩ := h.one i b hi; ⟨f, hf, ho.mono (Sub.refl ρ) (alloc_old _ _ ho.lt)⟩, h.apart⟩
/-- a block that no number tells of -/
def Away (ρ : Emb) (m : Mm) (D : Nat) : Prop := ∀ i b f, m i = some b → ρ i = some f → f.blk ≠ D
theorem Away.new {P : Program} {ρ : Emb} {m : Mm} {w : World} (h : HR P ρ m w) {D : Nat} (hD : w.heap.size ≤ D) : Away ρ m D := by
  intro i b f hi hf he
  obtain ⟨g, hg, ho⟩ := h.one i b hi
  rw [hf] at hg; cases hg
  have := ho.lt; omega
theorem Away.wr {ρ : Emb} {m : Mm} {D : Nat} (h : Away ρ m D) : ¬ Wr ρ m D := fun ⟨i, b, f, hi, _, hf, hB⟩ => h i b f hi hf hB
theorem HR.put_away {P : Program} {ρ : Emb} {m : Mm} {w : World} (h : HR P ρ m w) {D : Nat} (ha : Away ρ m D) (o : Obj) : HR P ρ m (w.putObj D o) :=
  ⟨fun i b hi => let ⟨f, hf, ho⟩ := h.one i b hi; ⟨f, hf, ho.mono (Sub.refl ρ) (World.putObj_heap_other (ha i b f hi hf))⟩, h.apart⟩
theorem Grow.put {ρ ρ' : Emb} {M M' : Mem} {w w' : World} (h : Grow ρ M w ρ' M' w') {D : Nat} (hD : w.heap.size ≤ D) (o : Obj) : Grow ρ M w ρ' M' (w'.putObj D o) :=
  ⟨⟨h.ext.sub, by rw [putObj_size]; exact h.ext.size, fun B hB hw => (World.putObj_heap_other (by omega)).trans (h.ext.heap B hB hw), h.ext.new, h.ext.ids, h.ext.io.trans ⟨rfl, rfl, rfl⟩⟩, h.keep, h.next⟩
theorem Grow.from_alloc {ρ ρ' : Emb} {M M' : Mem} {w w' : World} {o : Obj} (h : Grow ρ M (w.alloc o) ρ' M' w') : Grow ρ M w ρ' M' w' :=
  ⟨⟨h.ext.sub, Nat.le_trans (by simp) h.ext.size, fun B hB hw => (h.ext.heap B (by simp; omega) hw).trans (alloc_old _ _ hB), fun i f hi hf => (h.ext.new i f hi hf).imp (fun hl => by simp at hl; omega) id, h.ext.ids, (Io.trans ⟨rfl, rfl, rfl⟩ h.ext.io : Io w w')⟩, h.keep, h.next⟩

theorem ARun.rangeFunc0 {P : Program} {k : Nat} {g : Operand} {ps : Array Tmp} {as bd : Code} {s : St} {gf : FuncId} {lb : Array Value} {M' : Mem} (hg : aev s.env g = some (.func (.func gf) #[] lb)) (hc : callable P gf = true) (hs : ASeq P gf lb s.mem M') :
    ARun P none k (.rangeFunc g ps as bd) s .normal ⟨s.env, M', .coll :: s.dfr⟩ := by
  intro n₀ ρ a w hcur hle
  refine wpIn_rangeFunc ?_
  intro fn _
  have hv := aev_eval hcur.er hg
  generalize hge : a.eval g = g' at hv
  cases hv with
  | func _ hx hy hxx hyy =>
    rename_i first' lb'
    have hf0 : first' = #[] := by simpa using hx.symm
    subst hf0
    obtain ⟨rec, hrec⟩ : ∃ rec : Loop, rec = { state := .ready, pending := none, fn, tmps := a.tmps, params := ps, assign := as, body := bd, defers := w.heap.size } := ⟨_, rfl⟩
    have hsz1 : (w.alloc (.deferred (some []))).heap.size = w.heap.size + 1 := World.size_alloc _ _
    obtain ⟨W1, hW1⟩ : ∃ W1, (w.alloc (.deferred (some []))).alloc (.loop rec) = W1 := ⟨_, rfl⟩
    have hL1 : W1.heap[w.heap.size + 1]? = some (.loop rec) := by
      rw [← hW1]; have := World.alloc_heap_new (w.alloc (.deferred (some []))) (.loop rec); rwa [World.size_alloc] at this
    have hK1 : W1.heap[w.heap.size]? = some (.deferred (some [])) := by
      rw [← hW1]; exact (alloc_old _ _ (by simp)).trans (World.alloc_heap_new w _)
    have hsz : W1.heap.size = w.heap.size + 2 := by rw [← hW1]; simp
    have hr1 : HR P ρ s.mem.get W1 := by rw [← hW1]; exact (hcur.hr.allocAny _).allocAny _
    refine ⟨w.heap.size + 1, [{ target := .collected w.heap.size, args := #[] }], W1, { target := .fn (.func gf) lb', args := #[.func (.yield (w.heap.size + 1)) #[] #[]] }, W1, gf,
      #[.func (.yield (w.heap.size + 1)) #[] #[]] ++ lb', W1, ?_, ?_, ?_, run_invoke hc _ _ _, (fun h => by cases h), ?_⟩
    · rw [← hW1, hrec]; exact run_enterLoop_outer _ _ _ _ _
    · simp only [resolve, hge]
      simp [go_sem]
    · intro f' _; trivial
    refine (calls_Fw (hs ρ W1 _ lb' ⟨hy, hyy⟩ hr1 hcur.free)).mono ?_
    rintro e w2 ⟨v, ρ', rfl, h2, h3, h4⟩
    have hg0 : Grow ρ s.mem w ρ' M' w2 := by rw [← hW1] at h4; exact h4.from_alloc.from_alloc
    have away : ∀ D, w.heap.size ≤ D → D < w.heap.size + 2 → Away ρ' M'.get D := by
      intro D hD hD2 i b f hi hf he
      rcases h4.ext.ids i b hi with ⟨b₀, hb₀, _⟩ | hn
      · obtain ⟨f₀, hf₀, ho⟩ := hcur.hr.one i b₀ hb₀
        have := h4.ext.sub i f₀ hf₀
        rw [hf] at this; cases this
        have := ho.lt; omega
      · rcases h4.ext.new i f hn hf with hl | hw
        · omega
        · obtain ⟨j, c, g2, hj, _, hg2, hB⟩ := hw
          obtain ⟨f₀, hf₀, ho⟩ := hcur.hr.one j c hj
          rw [hg2] at hf₀; cases hf₀
          have := ho.lt; omega
    have keep : ∀ D o, w.heap.size ≤ D → D < w.heap.size + 2 → W1.heap[D]? = some o → w2.heap[D]? = some o := fun D o hD hD2 ho =>
      (h4.ext.heap D (by omega) ((Away.new hcur.hr hD).wr)).trans ho
    have hL2 := keep _ _ (by omega) (by omega) hL1
    have hK2 := keep _ _ (by omega) (by omega) hK1
    refine ⟨none, _, by have := run_endLoop (P := P) hL2 (by rw [hrec]; simp); rw [hrec] at this; exact this, rfl, ρ', ?_, hg0.put (by omega) _⟩
    have aw := away (w.heap.size + 1) (by omega) (by omega)
    refine ⟨hcur.er.mono h4.ext.sub, h2.put_away aw _, h3, ⟨⟨w.heap.size, rfl, hle, (World.putObj_heap_other (by omega)).trans hK2, away _ (Nat.le_refl _) (by omega)⟩, ?_⟩, hcur.size⟩
    exact hcur.defers.ext hcur.hr (hg0.put (by omega) _).ext

/-- an exit: results, deferred calls -/
theorem leaves_none {P : Program} {k n₀ : Nat} {fn : Func} {s : St} {ρ : Emb} {a : Act} {w : World} (hc : Cur P k n₀ ρ s a w) (hd : s.dfr = []) {v : Value} (hv : retV P fn.results.toList s = some v)
    {R : Ending → World → Prop} (hR : ∀ v', VR P ρ v v' → R (.returned v') w) : LeavesInM (Fw none) 0 P fn a.tmps R a.defers .returning w := by
  have h := hc.defers
  rw [hd] at h
  cases hds : a.defers with
  | cons d ds => rw [hds] at h; exact h.elim
  | nil =>
    obtain ⟨v', e1, e2⟩ := run_retV hc.er hc.hr hv
    exact ⟨v', e1, hR v' e2⟩
theorem leaves_coll {P : Program} {k n₀ : Nat} {fn : Func} {s : St} {ρ : Emb} {a : Act} {w : World} (hc : Cur P k n₀ ρ s a w) (hd : s.dfr = [.coll]) {v : Value} (hv : retV P fn.results.toList s = some v)
    {R : Ending → World → Prop} (hR : ∀ v' D, n₀ ≤ D → Away ρ s.mem.get D → VR P ρ v v' → R (.returned v') (w.putObj D (.deferred none))) : LeavesInM (Fw none) 0 P fn a.tmps R a.defers .returning w := by
  have h := hc.defers
  rw [hd] at h
  cases hds : a.defers with
  | nil => rw [hds] at h; exact h.elim
  | cons d ds =>
    rw [hds] at h
    obtain ⟨⟨D, rfl, hn, hD, haw⟩, h2⟩ := h
    cases ds with
    | cons d2 ds2 => exact h2.elim
    | nil =>
      obtain ⟨v', e1, e2⟩ := run_retV hc.er (hc.hr.put_away haw (.deferred none)) hv
      exact ⟨by simp, .inl ⟨D, _, rfl, run_takeDeferred hD, v', e1, hR v' D hn haw e2⟩⟩
theorem leaves_fn {P : Program} {k n₀ : Nat} {fn : Func} {s : St} {ρ : Emb} {a : Act} {w : World} (hc : Cur P k n₀ ρ s a w) {f : FuncId} {cap : Array Value} (hd : s.dfr = [.fn f cap]) (hcb : callable P f = true) {M' : Mem} (hdef : ADef P f cap s.mem M') {v : Value} (hv : retV P fn.results.toList ⟨s.env, M', []⟩ = some v)
    {R : Ending → World → Prop} (hR : ∀ v' ρ' w', VR P ρ' v v' → HR P ρ' M'.get w' → Free ρ' M'.next → Grow ρ s.mem w ρ' M' w' → R (.returned v') w') : LeavesInM (Fw none) 0 P fn a.tmps R a.defers .returning w := by
  have h := hc.defers
  rw [hd] at h
  cases hds : a.defers with
  | nil => rw [hds] at h; exact h.elim
  | cons d ds =>
    rw [hds] at h
    obtain ⟨⟨cap', rfl, hcap⟩, h2⟩ := h
    cases ds with
    | cons d2 ds2 => exact h2.elim
    | nil =>
      refine ⟨by simp, .inr ⟨(fun h => by cases h), .func f, cap', f, #[] ++ cap', rfl, run_invoke hcb _ _ _, fun _ _ => trivial, ?_⟩⟩
      rw [show (#[] ++ cap' : Array Value) = cap' by simp]
      refine (hdef ρ w cap' .returning hcap hc.hr hc.free).mono ?_
      rintro e u' w' ⟨rfl, x, ρ', rfl, h1, h2, h3⟩
      obtain ⟨v', e1, e2⟩ := run_retV (s := ⟨s.env, M', []⟩) (hc.er.mono h3.ext.sub) h1 hv
      exact ⟨v', e1, hR v' ρ' w' e2 h1 h2 h3⟩

/-! ### scopes, and jumps to their labels -/
theorem stepR_scope {P : Program} {b : Frame} {a : Act} {k : List Item} {cs : List Frame} {w : World} {c : Code} : step P (lone (b.atR a (.code (.scope c) :: k)) cs w) = .next (lone (b.atR a (.code c :: .inScope c :: k)) cs w) :=
  step_lone_go (by simp [stepG, stepG.exec, Frame.atR])
theorem stepR_inScope {P : Program} {b : Frame} {a : Act} {k : List Item} {cs : List Frame} {w : World} {c : Code} : step P (lone (b.atR a (.inScope c :: k)) cs w) = .next (lone (b.atR a k) cs w) :=
  step_lone_go (by simp [stepG, stepG.exec, Frame.atR])
theorem ARun.goto {P : Program} {r : Option Nat} {k l : Nat} {s : St} : ARun P r k (.goto l) s (.goto l) s := fun n₀ ρ a w hc hle => wpIn_goto ⟨rfl, ρ, hc, Grow.refl _ _ _⟩
/-- runs of a scope's code, each from a label on, to a way out that is no jump -/
inductive ScRounds (P : Program) (r : Option Nat) (k : Nat) (c : Code) : Code → St → Exit → St → Prop
  | out {d : Code} {s s' : St} {e : Exit} (h : ARun P r k d s e s') (he : ∀ l, e ≠ .goto l) : ScRounds P r k c d s e s'
  | more {d rest : Code} {l : Nat} {s s₁ s' : St} {e : Exit} (h : ARun P r k d s (.goto l) s₁) (hf : findLabel c l = some rest) (h' : ScRounds P r k c rest s₁ e s') : ScRounds P r k c d s e s'
theorem sc_arrives {P : Program} {r : Option Nat} {k n₀ : Nat} {c d : Code} {s s' : St} {e : Exit} (h : ScRounds P r k c d s e s') {ρ₀ : Emb} {M₀ : Mem} {w₀ : World} (h0 : HR P ρ₀ M₀.get w₀) :
    ∀ ρ a w, Cur P k n₀ ρ s a w → n₀ ≤ w.heap.size → Grow ρ₀ M₀ w₀ ρ s.mem w → ∀ (b : Frame) (k' : List Item) (cs : List Frame), b.roundOf = (Fw r).round → (Fw r).fn b.fn → (Fw r).room (cs.length + 1 + 0) →
      ∃ x a' w', Post P k n₀ ρ₀ M₀ w₀ e s' x a' w' ∧ ArrivesIn (Machine.fenced P (Fw r)) P (lone (b.atR a (.code d :: .inScope c :: k')) cs w) b k' cs x a' w' := by
  induction h with
  | out h he =>
    intro ρ a w hc hle hg b k' cs hro hb hr
    obtain ⟨x, a₁, w₁, hq, harr⟩ := h n₀ ρ a w hc hle b (.inScope c :: k') cs hro hb hr
    have hq' := hq.trans h0 hg
    obtain ⟨rfl, _⟩ := hq
    refine ⟨x, a₁, w₁, hq', ?_⟩
    cases x with
    | normal => exact StepsIn.trans harr (.one (fenced_calm hb hr rfl) stepR_inScope)
    | exit id =>
      have hx : exitTo id (.inScope c :: k') = exitTo id k' := by simp [exitTo]
      exact ⟨fun k₁ hk => harr.1 k₁ (by rw [hx]; exact hk), fun hr' hk => harr.2 hr' (by rw [hx]; exact hk)⟩
    | goto l => exact absurd rfl (he l)
    | ret => exact harr
    | panic ch => exact harr
    | outgrown => exact harr
  | @more d rest l s s₁ s' e h hf _ ih =>
    intro ρ a w hc hle hg b k' cs hro hb hr
    obtain ⟨x, a₁, w₁, hq, harr⟩ := h n₀ ρ a w hc hle b (.inScope c :: k') cs hro hb hr
    obtain ⟨rfl, ρ', hc', hg'⟩ := hq
    have hgo : gotoIn l (.inScope c :: k') = some (.code rest :: .inScope c :: k') := by simp [gotoIn, hf]
    obtain ⟨x, a₂, w₂, hq₂, harr₂⟩ := ih ρ' a₁ w₁ hc' (Nat.le_trans hle hg'.ext.size) (hg.trans h0 hg') b k' cs hro hb hr
    exact ⟨x, a₂, w₂, hq₂, .of_steps (harr.1 _ hgo) harr₂⟩
theorem ARun.scope {P : Program} {r : Option Nat} {k : Nat} {c : Code} {s s' : St} {e : Exit} (h : ScRounds P r k c c s e s') : ARun P r k (.scope c) s e s' := by
  intro n₀ ρ a w hc hle b k' cs hro hb hr
  obtain ⟨x, a', w', hq, harr⟩ := sc_arrives h hc.hr ρ a w hc hle (Grow.refl _ _ _) b k' cs hro hb hr
  exact ⟨x, a', w', hq, .of_steps (.one (fenced_calm hb hr rfl) stepR_scope) harr⟩

/-! ### a 'defer' statement behind a region's other operations -/
theorem wpIn_Q {F : Fence} {n : Nat} {P : Program} {o : Oper} {a : Act} {w : World} {K : Act → World → Prop} {Q Q' : Exit → Act → World → Prop} (h : ∀ e a w, e ≠ .normal → (Q e a w ↔ Q' e a w)) (hh : o.wpIn F n P a w K Q) : o.wpIn F n P a w K Q' := by
  have hl : LetsOut Q → LetsOut Q' := fun ⟨a₀, w₀, hq⟩ => ⟨a₀, w₀, (h _ _ _ (by simp)).1 hq⟩
  unfold Oper.wpIn at *
  refine ⟨hh.1, ?_⟩
  have hh := hh.2
  generalize (o.semAt F.round a.eval).run P w = r at *
  cases r with
  | ok x w' =>
    cases x <;> simp only [Oper.uponIn] at hh ⊢ <;>
      first
        | exact hh
        | exact ⟨hh.1, CallsIn.mono hh.2 (fun e w'' he => by cases e <;> first | exact he | exact hl he | exact (h _ _ _ (by simp)).1 he)⟩
        | exact ⟨hh.1, RoundIn.mono hh.2 (fun e w'' he => by cases e <;> first | exact he | exact hl he | exact (h _ _ _ (by simp)).1 he)⟩
  | halt x w' => cases x <;> simp only [Oper.uponIn] at hh ⊢ <;> first | exact (h _ _ _ (by simp)).1 hh | exact hh
def ontoQ (F : Fence) (n : Nat) (P : Program) (ops : Array Oper) (Q : Exit → Act → World → Prop) (l : List Nat) : Exit → Act → World → Prop
  | .normal, a, w => wpOpsIn F n P ops Q l a w
  | e, a, w => Q e a w
theorem wpOpsIn_append {F : Fence} {n : Nat} {P : Program} {ops : Array Oper} {Q : Exit → Act → World → Prop} {l' : List Nat} : ∀ (l : List Nat) (a : Act) (w : World), wpOpsIn F n P ops (ontoQ F n P ops Q l') l a w → wpOpsIn F n P ops Q (l ++ l') a w
  | [], a, w, h => h
  | i :: l, a, w, h => by
    rw [List.cons_append, wpOpsIn_cons]
    rw [wpOpsIn_cons] at h
    unfold wpOpIn at h ⊢
    cases ho : ops[i]? with
    | none => simp only [ho] at h ⊢; exact wpOpsIn_append l a w h
    | some o =>
      simp only [ho] at h ⊢
      split at h
      · rename_i hw
        simp only [hw, if_true]
        exact wpIn_Q (fun e a w he => by cases e <;> first | exact absurd rfl he | exact Iff.rfl) (Oper.wpIn_mono (fun a w h => wpOpsIn_append l a w h) h)
      · rename_i hw
        simp only [hw]
        exact ⟨h.1, wpOpsIn_append l _ _ h.2⟩

/-- the operations ahead of the 'defer' in a region's list, and what is deferred -/
def deferOf (ops : Array Oper) : Option (List Oper × Oper × Operand) := match ops.toList.reverse with
  | o :: l => match o.op, o.guard with
    | .defer c, none => match c.callee with
      | .value x => bif c.args.isEmpty then some (l.reverse, o, x) else none
      | _ => none
    | _, _ => none
  | [] => none
theorem ARun.region_defer {P : Program} {k id : Nat} {ops : Array Oper} {s : St} {l : List Oper} {o : Oper} {x : Operand} (hd : deferOf ops = some (l, o, x)) (hod : dstLt k o.dst = true)
    {K : Env → Mem → Prop} (h : wpS P ops k s.mem.next l 0 s.env (s.mem.bump (nAl P l)) K) :
    ∃ e' M', K e' M' ∧ ∀ f cap, aev e' x = some (.func (.func f) #[] cap) → ARun P none k (.region id ops false) s .normal ⟨e'.put o.dst undef, M', .fn f cap :: s.dfr⟩ := by
  unfold deferOf at hd
  split at hd
  · rename_i o₁ l₁ hrev
    split at hd
    · rename_i c hop hgu
      split at hd
      · rename_i x₁ hcal
        cases hemp : c.args.isEmpty with
        | false => simp [hemp] at hd
        | true =>
          simp only [hemp, cond_true, Option.some.injEq, Prod.mk.injEq] at hd
          obtain ⟨rfl, rfl, rfl⟩ := hd
          have hl : ops.toList = l₁.reverse ++ [o₁] := by rw [← List.reverse_reverse ops.toList, hrev]; simp
          have hsize : ops.size = l₁.reverse.length + 1 := by rw [← Array.length_toList, hl]; simp
          obtain ⟨T, e₁, M₁, q1, q2, q3, q4, q5, q6, q7⟩ := wpS_trace (P := P) (ops := ops) l₁.reverse 0 s.env _ 0 (fun j o hj => by
            have hlt := (List.getElem?_eq_some_iff.1 hj).1
            rw [Nat.zero_add, ← Array.getElem?_toList, hl, List.getElem?_append_left hlt]; exact hj) h
          refine ⟨e₁, M₁, q7, fun f cap hx => ?_⟩
          intro n₀ ρ a w hc hle
          refine wpIn_region ?_
          rw [hsize, List.range_succ]
          refine wpOpsIn_append _ _ _ ?_
          rw [show List.range l₁.reverse.length = T.map (·.i) by rw [q1, List.range_eq_range']]
          refine seq_ops (k := k) (ds := a.defers) T s.env _ e₁ M₁ ρ a w q2 q3 q4 (fun t d ht => q5 t d ht) ?_ ⟨hc.er, hc.hr, fun i hi => hc.free i (by have : s.mem.next + nAl P l₁.reverse ≤ i := hi; omega), rfl, hc.size⟩ ?_
          · intro A t C i b hT hcl
            obtain ⟨r1, r2, r3⟩ := q6 A t C i b hT hcl
            exact ⟨by show i < s.mem.next + nAl P l₁.reverse; omega, hc.free i (by omega), r3⟩
          · intro ρ' a' w' hc' he hk hn
            have hlast : ops[l₁.reverse.length]? = some o₁ := by rw [← Array.getElem?_toList, hl]; simp
            show wpOpsIn (Fw none) 0 P ops _ [l₁.reverse.length] a' w'
            rw [wpOpsIn_cons]
            unfold wpOpIn
            have hwant : Region.wanted o₁ (yielded ops a'.tmps) = true := by unfold Region.wanted; rw [hgu]
            simp only [hlast, hwant, if_true]
            refine ⟨fun _ _ => trivial, ?_⟩
            have hvx := aev_eval hc'.er hx
            generalize hxe : a'.eval x₁ = x' at hvx
            cases hvx with
            | func _ h1 h2 h3 h4 =>
              rename_i first' cap'
              have hf0 : first' = #[] := by simpa using h1.symm
              subst hf0
              have hargs : c.args = #[] := by simpa using hemp
              have hrun : (o₁.semAt (Fw none).round a'.eval).run P w' = .ok (.defer { target := .fn (.func f) cap', args := #[] }) w' := by
                rw [show (Fw none).round = none from rfl, Oper.semAt_none]
                unfold execOp
                rw [hop]
                simp [resolve, hcal, hxe, hargs, Deferred.ofValue, Sem.run_bind, Sem.run_pure]
              rw [hrun, Oper.uponIn_defer]
              have hgr : Grow ρ s.mem w ρ' M₁ w' := ⟨he, fun i hi h => hk i (by show i < s.mem.next + nAl P l₁.reverse; omega) h fun t b ht hcl => ?_, by have : s.mem.next + nAl P l₁.reverse ≤ M₁.next := hn; show s.mem.next ≤ M₁.next; omega⟩
              · have hcur := hc'.cur hc.hr hc.defers he
                have hpd : ({ a' with defers := { target := .fn (.func f) cap', args := #[] } :: a'.defers }.put o₁.dst undef).defers = { target := .fn (.func f) cap', args := #[] } :: a'.defers := by cases o₁.dst <;> rfl
                have hpt : ({ a' with defers := { target := .fn (.func f) cap', args := #[] } :: a'.defers }.put o₁.dst undef).tmps = (a'.put o₁.dst undef).tmps := by cases o₁.dst <;> rfl
                refine ⟨rfl, ρ', ⟨?_, hcur.hr, hcur.free, ?_, ?_⟩, hgr⟩
                · rw [hpt]; exact hc'.er.put (fun t ht => by rw [hc'.size]; exact dstLt_spec hod t ht) (VR.undef P ρ')
                · rw [hpd]; exact ⟨⟨cap', rfl, h2, h4⟩, hcur.defers⟩
                · rw [hpt]; exact (put_size _ _ _).trans hc'.size
              · obtain ⟨A, C, hT⟩ := List.append_of_mem ht
                have := (q6 A t C i b hT hcl).1; omega
      · cases hd
    · cases hd
  · cases hd
end Go.Proofs.YtopblipficpilaaGreatDoor.AY
