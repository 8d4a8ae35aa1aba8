/- The layer: the quick machine: operations. -/
import Derived.Test.YtopblipficpilaaGreatDoorBulkPuts12
namespace Go.Proofs.YtopblipficpilaaGreatDoor.AY
open Go
set_option linter.unusedVariables false
set_option linter.unusedSimpArgs false

/-- what an operation does: B is what it reads, M what it changes -/
def Acts (P : Program) (ext : ExtF) (c : CC) (o : Oper) (ev : Operand → Option Value) (B M : Mem) (b : Nat) (v : Value) (M' : Mem) (b' : Nat) : Prop := match kindOf P o with
  | .pure => pureV P ev o = some v ∧ M' = M ∧ b' = b
  | .read => readV P ev B.get o = some v ∧ M' = M ∧ b' = b
  | .alloc => ∃ bl mk, allocA P ev o.op = some (bl, mk) ∧ v = mk b ∧ M' = M.put b bl ∧ b' = b + 1
  | .eff => effV P ev M o = some (v, M') ∧ b' = b
  | .call => b' = b ∧ ((∃ f args, callOf P ev o = some (f, args) ∧ c.call f args.toList M = some (v, M')) ∨ (callOf P ev o = none ∧ ext ev M o = some v ∧ M' = M))
def Done (P : Program) (ext : ExtF) (c : CC) (ds : List (Option Nat)) (o : Oper) (s : S) (kk : KT) (b : Nat) (st : List Value) (t : Ev) (M : Mem) (r : Value × Mem) : Prop :=
  ∃ v M' b', Acts P ext c o (evS ds st t) M M b v M' b' ∧ zPut s kk b' st t M' v = some r
section
variable {P : Program} {ext : ExtF} {c : CC} {ds : List (Option Nat)} {o : Oper} {s : S} {kk : KT} {b : Nat} {st : List Value} {t : Ev} {M : Mem} {r : Value × Mem}

theorem Done.pure {v : Value} (hk : kindOf P o = .pure) (hv : pureV P (evS ds st t) o = some v) (h : zPut s kk b st t M v = some r) : Done P ext c ds o s kk b st t M r :=
  ⟨v, M, b, by simp [Acts, hk, hv], h⟩
theorem Done.read {v : Value} (hk : kindOf P o = .read) (hv : readV P (evS ds st t) M.get o = some v) (h : zPut s kk b st t M v = some r) : Done P ext c ds o s kk b st t M r :=
  ⟨v, M, b, by simp [Acts, hk, hv], h⟩
theorem Done.eff {v : Value} {M' : Mem} (hk : kindOf P o = .eff) (hv : effV P (evS ds st t) M o = some (v, M')) (h : zPut s kk b st t M' v = some r) : Done P ext c ds o s kk b st t M r :=
  ⟨v, M', b, by simp [Acts, hk, hv], h⟩
theorem Done.alloc {bl : Blk} {mk : Nat → Value} (hk : kindOf P o = .alloc) (hv : allocA P (evS ds st t) o.op = some (bl, mk)) (h : zPut s kk (b + 1) st t (M.put b bl) (mk b) = some r) : Done P ext c ds o s kk b st t M r :=
  ⟨mk b, M.put b bl, b + 1, by unfold Acts; rw [hk]; exact ⟨bl, mk, hv, rfl, rfl, rfl⟩, h⟩
theorem ansK_some {f : Value → Mem → Ans} {a : Ans} (h : ansK f a = some r) : ∃ v M', a = some (v, M') ∧ f v M' = some r := by
  cases a with
  | none => cases h
  | some p => obtain ⟨v, M'⟩ := p; exact ⟨v, M', rfl, h⟩
theorem generic_done (h : (zGeneric P ext ds o s).run c kk b st t M = some r) : Done P ext c ds o s kk b st t M r := by
  unfold zGeneric at h
  rw [kindZ_eq] at h
  cases hk : kindOf P o with
  | pure =>
    rw [hk] at h
    obtain ⟨v, h1, h2⟩ := oK_none (show oK none (zPut s kk b st t M) (pureV P (evS ds st t) o) = some r from h)
    exact .pure hk h1 h2
  | read =>
    rw [hk] at h
    obtain ⟨v, h1, h2⟩ := oK_none (show oK none (zPut s kk b st t M) (readV P (evS ds st t) M.get o) = some r from h)
    exact .read hk h1 h2
  | alloc =>
    rw [hk] at h
    rcases orec_some h with ⟨_, h⟩ | ⟨p, h1, h⟩
    · cases h
    · obtain ⟨bl, mk⟩ := p
      refine .alloc hk h1 ?_
      have h : zPut s kk (Nat.succ b) st t (mPut M b bl) (mk b) = some r := h
      rwa [mPut_eq] at h
  | eff =>
    rw [hk] at h
    unfold zEffG at h
    dsimp only at h
    obtain ⟨v, M', h1, h2⟩ := ansK_some h
    exact .eff hk h1 h2
  | call =>
    rw [hk] at h
    rcases orec_some h with ⟨h0, h⟩ | ⟨p, h1, h⟩
    · obtain ⟨v, h1, h2⟩ := oK_none h
      exact ⟨v, M, b, by unfold Acts; rw [hk]; exact ⟨rfl, .inr ⟨h0, h1, rfl⟩⟩, h2⟩
    · obtain ⟨f, args⟩ := p
      obtain ⟨v, M', h2, h3⟩ := ansK_some h
      exact ⟨v, M', b, by unfold Acts; rw [hk]; exact ⟨rfl, .inl ⟨f, args, h1, h2⟩⟩, h3⟩

theorem zNil_some {x : Value} {k : KV} {y : Operand} (ho : o.op = .nilCheck y) (hy : evS ds st t y = some x) (h : zNil.run x k = some r) : ∃ v, pureV P (evS ds st t) o = some v ∧ k v = some r := by
  unfold zNil at h
  dsimp only at h
  have hp : ∀ u, (match x with | .pointer (some a) => some (Value.pointer (some a)) | _ => none) = some u → pureV P (evS ds st t) o = some u := by
    intro u hu
    simp only [pureV, ho, hy]
    split at hu
    · exact hu
    · cases hu
  rcases vPtr_some h with h | ⟨b, o', rfl, h'⟩
  · obtain ⟨v, h1, h2⟩ := oK_none h; exact ⟨v, hp v h1, h2⟩
  · exact ⟨_, hp _ rfl, h'⟩
theorem zConvI_some {src dst : TypeId} {kd ks : IntKind} {x : Value} {k : KV} (h1 : P.underlying src = some (.int ks)) (h2 : P.underlying dst = some (.int kd)) (h : (zConvI P src dst kd).run x k = some r) : ∃ v, convV P src dst x = some v ∧ k v = some r := by
  unfold zConvI at h
  dsimp only at h
  rcases vNat_some h with h | ⟨k', m, rfl, h'⟩
  · exact oK_none h
  · rcases zFit_some h' with h | ⟨hm, h⟩
    · exact oK_none h
    · exact ⟨_, by simp only [convV, h1, h2, wrap_fit hm], h⟩
theorem zIdxS_some {ty e : TypeId} {inf : TypeInfo} {x y : Value} {k : KV} (h1 : P.underlying ty = some (.slice e)) (h2 : P.info? e = some inf) (h : (zIdxS (zIdxG P ty) inf.size).run x y k = some r) : ∃ v, indexAddrV P ty x y = some v ∧ k v = some r := by
  unfold zIdxS at h
  dsimp only at h
  rcases vSl_some h with h | ⟨b, o, n, cp, rfl, h1'⟩
  · exact oK_none h
  · rcases vNat_some h1' with h | ⟨k', i, rfl, h2'⟩
    · exact oK_none h
    · rcases brec_some h2' with ⟨_, h⟩ | ⟨hb, h⟩
      · exact oK_none h
      · have := Nat.le_of_ble_eq_true hb
        refine ⟨_, ?_, h⟩
        have hc : (0 : Int) ≤ (i : Int) ∧ (i : Int) < (n : Int) := by omega
        simp only [indexAddrV, h1, h2, Int.ofNat_eq_natCast, Int.toNat_natCast]
        rw [if_pos hc]; rfl
theorem zIdxA_some {ty e : TypeId} {n : Nat} {inf : TypeInfo} {x y : Value} {k : KV} (h1 : P.underlying ty = some (.array n e)) (h2 : P.info? e = some inf) (h : (zIdxA (zIdxG P ty) n inf.size).run x y k = some r) : ∃ v, indexAddrV P ty x y = some v ∧ k v = some r := by
  unfold zIdxA at h
  dsimp only at h
  rcases vPtr_some h with h | ⟨b, o, rfl, h1'⟩
  · exact oK_none h
  · rcases vNat_some h1' with h | ⟨k', i, rfl, h2'⟩
    · exact oK_none h
    · rcases brec_some h2' with ⟨_, h⟩ | ⟨hb, h⟩
      · exact oK_none h
      · have := Nat.le_of_ble_eq_true hb
        refine ⟨_, ?_, h⟩
        have hc : (0 : Int) ≤ (i : Int) ∧ (i : Int) < (n : Int) := by omega
        simp only [indexAddrV, h1, h2, Int.ofNat_eq_natCast, Int.toNat_natCast]
        rw [if_pos hc]; rfl
theorem head_drop (l : List Value) (i : Nat) : (lDrop l i).head? = l[i]? := by rw [lDrop_eq, List.head?_drop]
theorem zLoad_some {ty : TypeId} {x : Value} {k : KV} (h : (zLoad P ty).run M x k = some r) : ∃ v, loadV P M.get ty x = some v ∧ k v = some r := by
  unfold zLoad at h
  simp only [underZ_eq, infoZ_eq] at h
  split at h
  · rename_i d i h1 h2
    cases ha : aggT d with
    | true => simp only [ha, cond_true] at h; exact oK_none h
    | false =>
      simp only [ha, cond_false] at h
      unfold zLoad1 at h
      dsimp only at h
      rcases vPtr_some h with h | ⟨b, o, rfl, h'⟩
      · exact oK_none h
      · rcases zRow_some h' with h | ⟨blk, h3, h⟩
        · exact oK_none h
        · rcases lHead_some h with ⟨_, h⟩ | ⟨v, h4, h⟩
          · exact oK_none h
          · exact ⟨v, by simp only [loadV, h3, h1, h2, ha, cond_false, ← h4, head_drop], h⟩
  · exact oK_none h
theorem zOps_some : ∀ {l : List Operand} {k : List Value → Ans}, (zOps ds l).run st t k = some r → ∃ vs, evL (evS ds st t) l = some vs ∧ k vs = some r
  | [], k, h => ⟨[], rfl, h⟩
  | x :: l, k, h => by
    obtain ⟨v, h1, h2⟩ := zOp_some (ds := ds) (x := x) (st := st) (t := t) (k := fun v => (zOps ds l).run st t fun l => k (v :: l)) h
    obtain ⟨vs, h3, h4⟩ := zOps_some h2
    exact ⟨v :: vs, by simp only [evL, h1, h3], h4⟩

theorem zU_some {x : Operand} {f : UU} (h : (zU (zOp ds x) f s).run c kk b st t M = some r) : ∃ v, evS ds st t x = some v ∧ f.run v (zPut s kk b st t M) = some r := zOp_some h
theorem zB_some {x y : Operand} {f : BB} (h : (zB (zOp ds x) (zOp ds y) f s).run c kk b st t M = some r) : ∃ u v, evS ds st t x = some u ∧ evS ds st t y = some v ∧ f.run u v (zPut s kk b st t M) = some r := by
  obtain ⟨u, h1, h2⟩ := zOp_some (k := fun u => (zOp ds y).run st t fun v => f.run u v (zPut s kk b st t M)) h
  obtain ⟨v, h3, h4⟩ := zOp_some h2
  exact ⟨u, v, h1, h3, h4⟩
theorem vagg_one {v : Value} (h : v.cells = #[v]) : v.cells.toList = [v] := by rw [h]
theorem conv_done {src dst : TypeId} {x : Operand} (ho : o.op = .convert src dst x) (h : (zConv P ds (zGeneric P ext ds o s) src dst x s).run c kk b st t M = some r) : Done P ext c ds o s kk b st t M r := by
  unfold zConv at h
  simp only [underZ_eq, infoZ_eq] at h
  split at h
  · rename_i h1 h2
    obtain ⟨v, h3, h⟩ := zU_some h
    obtain ⟨u, h4, h⟩ := zConvI_some h1 h2 h
    exact .pure (by simp [kindOf, ho, h1, h2]) (by simp [pureV, ho, h3, h4]) h
  · exact generic_done h
theorem fieldAddr_done {ty : TypeId} {x : Operand} {f : Nat} (ho : o.op = .fieldAddr ty x f) (h : (zFieldAddr P ds (zGeneric P ext ds o s) ty x f s).run c kk b st t M = some r) : Done P ext c ds o s kk b st t M r := by
  unfold zFieldAddr at h
  simp only [underZ_eq, infoZ_eq] at h
  split at h
  · rename_i fields h1
    split at h
    · rename_i fl h2
      split at h
      · rename_i i h3
        cases h0 : Nat.beq i.size 0 with
        | true => simp only [h0, cond_true] at h; exact generic_done h
        | false =>
          simp only [h0, cond_false] at h
          obtain ⟨v, h4, h⟩ := zU_some h
          unfold zOff at h
          dsimp only at h
          rcases vPtr_some h with h | ⟨bb, oo, rfl, h'⟩
          · cases h
          · have hz : i.size ≠ 0 := by intro hz; rw [hz] at h0; cases h0
            exact .pure (by simp [kindOf, ho]) (by simp only [pureV, ho, h4, fieldAddrV, h1, h2, h3, hz, if_false]; rfl) h'
      · exact generic_done h
    · exact generic_done h
  · exact generic_done h
theorem indexAddr_done {ty : TypeId} {x y : Operand} (ho : o.op = .indexAddr ty x y) (h : (zIndexAddr P ds (zGeneric P ext ds o s) ty x y s).run c kk b st t M = some r) : Done P ext c ds o s kk b st t M r := by
  unfold zIndexAddr at h
  simp only [underZ_eq, infoZ_eq] at h
  split at h
  · rename_i e h1
    split at h
    · rename_i inf h2
      obtain ⟨u, v, h3, h4, h⟩ := zB_some h
      obtain ⟨w, h5, h⟩ := zIdxS_some h1 h2 h
      exact .pure (by simp [kindOf, ho]) (by simp [pureV, ho, h3, h4, h5]) h
    · exact generic_done h
  · rename_i n e h1
    split at h
    · rename_i inf h2
      obtain ⟨u, v, h3, h4, h⟩ := zB_some h
      obtain ⟨w, h5, h⟩ := zIdxA_some h1 h2 h
      exact .pure (by simp [kindOf, ho]) (by simp [pureV, ho, h3, h4, h5]) h
    · exact generic_done h
  · exact generic_done h
theorem store_done {ty : TypeId} {x y : Operand} (ho : o.op = .store ty x y) (h : (zStore P ty (zGeneric P ext ds o s) (zOp ds x) (zOp ds y) s).run c kk b st t M = some r) : Done P ext c ds o s kk b st t M r := by
  unfold zStore at h
  simp only [infoZ_eq] at h
  split at h
  · rename_i i h1
    cases h0 : Nat.beq i.size 1 with
    | false => simp only [h0, cond_false] at h; exact generic_done h
    | true =>
      have hsz := Nat.eq_of_beq_eq_true h0
      simp only [h0, cond_true] at h
      obtain ⟨u, h2, h⟩ := zOp_some (ds := ds) (x := x) (st := st) (t := t) h
      obtain ⟨v, h3, h⟩ := zOp_some (ds := ds) (x := y) (st := st) (t := t) h
      rcases vOne_some h with h | ⟨hv1, hv2, h⟩
      · exact generic_done h
      · rcases vPtr_some h with h | ⟨i', o', rfl, h'⟩
        · exact generic_done h
        · rcases zRow_some h' with h | ⟨blk, h4, h⟩
          · exact generic_done h
          · rcases brec_some h with ⟨_, h⟩ | ⟨hrw, h⟩
            · cases h
            · rcases lHead_some h with ⟨_, h⟩ | ⟨w, h5, h⟩
              · exact generic_done h
              · rw [head_drop] at h5
                have hlt : o' < blk.cells.length := (List.getElem?_eq_some_iff.1 h5).1
                rw [mPut_eq, lSet_eq v _ _ hlt] at h
                refine .eff (by simp [kindOf, ho]) (M' := M.put i' { blk with cells := splice blk.cells o' [v] }) ?_ ?_ (v := undef)
                · have hb : (⟨splice blk.cells o' [v], blk.elem, blk.rw⟩ : Blk) = { blk with cells := splice blk.cells o' [v] } := rfl
                  have hcond : blk.rw = true ∧ v.cells.size = i.size ∧ oneCells v.cells.toList = true ∧ o' + i.size ≤ blk.cells.length := ⟨hrw, by rw [hv2, hsz]; rfl, by rw [hv2]; simp [oneCells, hv1], by omega⟩
                  simp only [effV, ho, h2, h3, storeE, h4, h1]
                  rw [if_pos hcond, vagg_one hv2]
                · rw [← hrw] at h; exact h
  · exact generic_done h

/-! ### rows that are made -/
theorem vSlc_some {d : Ans} {g : Unit → Ans} {f : Nat → Nat → Nat → Nat → Ans} {v : Value} (h : vSlc d g f v = some r) : d = some r ∨ (∃ n c, v = .slice none n c ∧ g () = some r) ∨ ∃ b o n c, v = .slice (some ⟨b, o, none⟩) n c ∧ f b o n c = some r := by
  cases v <;> first | (exact .inl h) | skip
  rename_i a n c
  cases a with
  | none => exact .inr (.inl ⟨n, c, rfl, h⟩)
  | some a =>
    obtain ⟨b, o, sp⟩ := a
    cases sp with
    | none => exact .inr (.inr ⟨b, o, n, c, rfl, h⟩)
    | some _ => exact .inl h
theorem one1_eq (v : Value) : one1 v = v.oneCell' := by cases v <;> rfl
theorem lOnes_eq : ∀ l, lOnes l = oneCells l
  | [] => rfl
  | v :: l => by
    show Bool.rec (motive := fun _ => Bool) false (lOnes l) (one1 v) = _
    rw [lOnes_eq l, one1_eq]
    simp only [oneCells, List.all_cons]
    cases v.oneCell' <;> rfl
theorem lApp_eq (b : List Value) : ∀ a, lApp a b = a ++ b
  | [] => rfl
  | x :: a => by show x :: lApp a b = _; rw [lApp_eq b a]; rfl
theorem lTake_eq : ∀ (n : Nat) (l : List Value), lTake n l = l.take n
  | 0, l => by show [] = _; simp
  | n + 1, [] => rfl
  | n + 1, x :: l => by show x :: lTake n l = _; rw [lTake_eq n l]; rfl
theorem lNil_eq (l : List Value) : lNil l = l.isEmpty := by cases l <;> rfl
theorem lRep_eq (v : Value) : ∀ n, lRep v n = List.replicate n v
  | 0 => rfl
  | n + 1 => by show v :: lRep v n = _; rw [lRep_eq v n]; rfl
theorem mDel_eq (M : Mem) (i : Nat) : mDel M i = M.del i := by
  show Mem.mk M.next (tSet (Nat.succ i) M.tri i none) = _
  rw [tSet_eq]; rfl
theorem contK_some {slow : Ans} {K : Nat → List Value → Ans} {n m : Nat} {l : List Value} (h : contK slow K n m l = some r) : slow = some r ∨ (m ≤ l.length ∧ l.length ≠ 0 ∧ K n (l.take m) = some r) := by
  rcases brec_some h with ⟨h1, h⟩ | ⟨_, h⟩
  · rw [lNil_eq, lDrop_eq] at h1
    have hlen : Nat.sub m 1 < l.length := by
      rcases Nat.lt_or_ge (Nat.sub m 1) l.length with h2 | h2
      · exact h2
      · rw [List.drop_eq_nil_of_le h2] at h1; cases h1
    have hm : m ≤ l.length := by simp only [Nat.sub_eq] at hlen; omega
    refine .inr ⟨hm, by omega, ?_⟩
    rcases brec_some h with ⟨h2, h⟩ | ⟨h2, h⟩
    · rwa [lTake_eq] at h
    · rw [lNil_eq, lDrop_eq] at h2
      have : l.length ≤ m := by simpa using h2
      rwa [List.take_of_length_le this]
  · exact .inl h
theorem zCont_some {slow : Ans} {K : Nat → List Value → Ans} {sz : Nat} {x : Value} (h : zCont slow K sz M x = some r) : slow = some r ∨ ((∃ a n c, x = .slice a n c) ∧ ∃ n l, contentV M.get sz x = some (n, l) ∧ K n l = some r) := by
  unfold zCont at h
  rcases vSlc_some h with h | ⟨n, c', rfl, h'⟩ | ⟨b, o', n, c', rfl, h'⟩
  · exact .inl h
  · exact .inr ⟨⟨_, _, _, rfl⟩, 0, [], rfl, h'⟩
  · rcases brec_some h' with ⟨h0, h1⟩ | ⟨h0, h1⟩
    · have hn : n ≠ 0 := by rintro rfl; cases h0
      rcases zRow_some h1 with h | ⟨blk, h2, h1⟩
      · exact .inl h
      · rcases contK_some h1 with h | ⟨h3, h5, h1⟩
        · exact .inl h
        · rw [lDrop_eq] at h1 h3 h5
          rw [List.length_drop] at h3 h5
          refine .inr ⟨⟨_, _, _, rfl⟩, n, _, ?_, h1⟩
          have h4 : o' + n * sz ≤ blk.cells.length := by
            have : Nat.mul n sz = n * sz := rfl
            omega
          simp only [contentV, hn, if_false, h2, if_pos h4]; rfl
    · have hn : n = 0 := Nat.eq_of_beq_eq_true h0
      subst hn
      exact .inr ⟨⟨_, _, _, rfl⟩, 0, [], rfl, h1⟩
theorem grow_eq {e : TypeId} {cells : List Value} {n bk : Nat} (h : zGrow s kk bk st t M e cells n = some r) : zPut s kk bk st t (grownE P M e cells n).2 (grownE P M e cells n).1 = some r := by
  have h : zPut s kk bk st t ⟨Nat.succ M.next, tSet (Nat.succ M.next) M.tri M.next (some ⟨cells, e, true⟩)⟩ (.slice (some ⟨M.next, 0, none⟩) n unk) = some r := h
  rw [tSet_eq] at h
  unfold grownE
  rw [Mem.put_eq]
  exact h
theorem append_done {cl : Call} {p q : Operand} {ty tx : TypeId} (ho : o.op = .call cl) (hc : cl.callee = .builtin .append) (ha : cl.args.toList = [p, q]) (ht : cl.argTypes.toList = [ty, tx])
    (h : (zAppend P ds (zGeneric P ext ds o s) p q ty tx s).run c kk b st t M = some r) : Done P ext c ds o s kk b st t M r := by
  have hk : kindOf P o = .eff := by simp [kindOf, ho, hc]
  unfold zAppend at h
  simp only [underZ_eq, infoZ_eq, zeroZ_eq] at h
  split at h
  · rename_i e d h1 h2
    split at h
    · rename_i i z h3 h4
      cases hg : (isObj e || isInt d || Nat.beq i.bytes 0 || !(Nat.beq z.size i.size)) with
      | true => simp only [hg, cond_true] at h; exact generic_done h
      | false =>
        simp only [hg, cond_false] at h
        simp only [Bool.or_eq_false_iff, Bool.not_eq_false'] at hg
        obtain ⟨⟨⟨g1, g2⟩, g3⟩, g4⟩ := hg
        have hcond : ¬ (isObj e = true ∨ isInt d = true ∨ i.bytes = 0 ∨ z.size ≠ i.size) := by
          rw [g1, g2]
          have h5 : i.bytes ≠ 0 := by intro h0; rw [h0] at g3; cases g3
          have h6 : z.size = i.size := Nat.eq_of_beq_eq_true g4
          simp [h5, h6]
        obtain ⟨x, hx, h⟩ := zOp_some (ds := ds) (x := p) (st := st) (t := t) h
        obtain ⟨y, hy, h⟩ := zOp_some (ds := ds) (x := q) (st := st) (t := t) h
        rcases zCont_some h with h | ⟨⟨a, n1, c1, hxs⟩, k, olds, h5, h⟩
        · exact generic_done h
        · rcases zCont_some h with h | ⟨_, n, news, h6, h⟩
          · exact generic_done h
          · have heff : ∀ v M', (match x with
              | .slice none _ _ => if n = 0 then some (x, M) else if (k + n) * i.bytes ≤ 140737488355328 then some (grownE P M e (olds ++ news) (k + n)) else none
              | .slice (some ⟨b, o, none⟩) k' c => if n = 0 then some (x, M) else if (k + n) * i.bytes ≤ 140737488355328 ∧ k = k' ∧ oneCells news = true then
                  if c ≠ unk ∧ c < k + n then some (grownE P M e (olds ++ news) (k + n)) else match rowsOf M.get b with
                  | some blk => if blk.rw = true ∧ blk.elem = e then some (grownE P (M.del b) e (olds ++ news) (k + n)) else none
                  | none => none
                else none
              | _ => none) = some (v, M') → effV P (evS ds st t) M o = some (v, M') := by
              intro v M' hv
              simp only [effV, ho, hc, ha, ht, hx, hy, appendE, h1, h2, h3, h4, if_neg hcond, h5, h6]
              exact hv
            unfold zApp2 at h
            rcases brec_some h with ⟨h0, h⟩ | ⟨h0, h⟩
            · have hn : n ≠ 0 := by rintro rfl; cases h0
              rcases brec_some h with ⟨_, h⟩ | ⟨hle, h⟩
              · exact generic_done h
              · have hle : (k + n) * i.bytes ≤ 140737488355328 := Nat.le_of_ble_eq_true hle
                rcases vSlc_some h with h | ⟨n2, c2, rfl, h⟩ | ⟨b2, o2, k', c2, rfl, h⟩
                · exact generic_done h
                · rw [lApp_eq] at h
                  refine .eff hk (heff _ _ ?_) (grow_eq (P := P) h)
                  simp only [hn, if_false, if_pos hle]; rfl
                · rcases brec_some h with ⟨_, h⟩ | ⟨hkk, h⟩
                  · exact generic_done h
                  · have hkk : k = k' := Nat.eq_of_beq_eq_true hkk
                    rcases brec_some h with ⟨_, h⟩ | ⟨hon, h⟩
                    · exact generic_done h
                    · rw [lOnes_eq] at hon
                      have hc3 : (k + n) * i.bytes ≤ 140737488355328 ∧ k = k' ∧ oneCells news = true := ⟨hle, hkk, hon⟩
                      rcases brec_some h with ⟨hroom, h⟩ | ⟨hroom, h⟩
                      · have hno : ¬ (c2 ≠ unk ∧ c2 < k + n) := by
                          intro hh
                          have h7 : Nat.beq c2 unk = false := by
                            cases hb : Nat.beq c2 unk with
                            | false => rfl
                            | true => exact absurd (Nat.eq_of_beq_eq_true hb) hh.1
                          rw [h7] at hroom
                          have h8 : Nat.ble (Nat.succ c2) (Nat.add k n) = true := Nat.ble_eq_true_of_le hh.2
                          have hroom : Nat.ble (Nat.succ c2) (Nat.add k n) = false := hroom
                          rw [h8] at hroom; cases hroom
                        rcases zRow_some h with h | ⟨blk, h9, h⟩
                        · exact generic_done h
                        · rcases brec_some h with ⟨_, h⟩ | ⟨hrw, h⟩
                          · exact generic_done h
                          · rcases brec_some h with ⟨_, h⟩ | ⟨hel, h⟩
                            · exact generic_done h
                            · rw [lApp_eq, mDel_eq] at h
                              refine .eff hk (heff _ _ ?_) (grow_eq (P := P) h)
                              have hc4 : blk.rw = true ∧ blk.elem = e := ⟨hrw, Nat.eq_of_beq_eq_true hel⟩
                              simp only [hn, if_false, if_pos hc3, if_neg hno, h9, if_pos hc4]; rfl
                      · have hyes : c2 ≠ unk ∧ c2 < k + n := by
                          cases hb : Nat.beq c2 unk with
                          | true => rw [hb] at hroom; cases hroom
                          | false =>
                            rw [hb] at hroom
                            exact ⟨by intro h0; rw [h0] at hb; rw [beq_iff] at hb; simp at hb, Nat.le_of_ble_eq_true hroom⟩
                        rw [lApp_eq] at h
                        refine .eff hk (heff _ _ ?_) (grow_eq (P := P) h)
                        simp only [hn, if_false, if_pos hc3, if_pos hyes]; rfl
            · have hn : n = 0 := Nat.eq_of_beq_eq_true h0
              subst hn
              subst hxs
              refine .eff hk (heff _ _ ?_) h
              cases a with
              | none => rfl
              | some a =>
                obtain ⟨b2, o2, sp⟩ := a
                cases sp with
                | none => rfl
                | some sp => simp only [contentV, reduceCtorEq] at h5
    · exact generic_done h
  · exact generic_done h
theorem inOrder_evP {f : Operand → Option Value} : ∀ (l : List (Nat × Operand)) (j : Nat) (vs : List Value), inOrder j l = true → evL f (l.map (·.2)) = some vs → evP f l = some ((List.range' j vs.length).zip vs) ∧ vs.length = l.length
  | [], j, vs, _, h => by simp only [List.map_nil, evL, Option.some.injEq] at h; subst h; exact ⟨rfl, rfl⟩
  | (i, x) :: l, j, vs, ho, h => by
    simp only [inOrder, Bool.and_eq_true] at ho
    have hi : i = j := Nat.eq_of_beq_eq_true ho.1
    subst hi
    simp only [List.map_cons, evL] at h
    split at h
    · rename_i v us h1 h2
      cases h
      obtain ⟨h3, h4⟩ := inOrder_evP l (i + 1) us ho.2 h2
      refine ⟨?_, by simp [h4]⟩
      simp only [evP, h1, h3, List.length_cons, List.range'_succ, List.zip_cons_cons]
    · cases h
theorem one_cells {v : Value} (h : v.oneCell' = true) : v.cells = #[v] := by cases v <;> first | rfl | cases h
theorem fill_order : ∀ (vs : List Value) (j : Nat) (A : Array Value), oneCells vs = true → A.size = j + vs.length →
    Instr.fill (fun n => some (n * 1, 1)) A ((List.range' j vs.length).zip vs) = some (A.toList.take j ++ vs).toArray
  | [], j, A, _, hA => by
    simp only [List.length_nil, List.range'_zero, List.zip_nil_left, Instr.fill, List.append_nil]
    rw [List.take_of_length_le (by simpa using Nat.le_of_eq hA)]
  | v :: vs, j, A, ho, hA => by
    simp only [oneCells, List.all_cons, Bool.and_eq_true] at ho
    have hv := one_cells ho.1
    simp only [List.length_cons] at hA
    simp only [List.length_cons, List.range'_succ, List.zip_cons_cons, Instr.fill, hv]
    have hlt : j < A.size := by omega
    have hcond : ¬ ((#[v].size ≠ 1 || j * 1 + #[v].size > A.size) = true) := by
      simp; omega
    rw [if_neg (by simpa using hcond)]
    have hset : (#[v].zipIdx.foldl (fun cs (x : Value × Nat) => cs.setIfInBounds (j * 1 + x.2) x.1) A) = A.setIfInBounds j v := by simp
    rw [show (#[v].zipIdx.foldl (fun cs x => match x with | (c, k) => cs.setIfInBounds (j * 1 + k) c) A) = A.setIfInBounds j v from by simp]
    rw [fill_order vs (j + 1) _ ho.2 (by simp; omega)]
    congr 2
    rw [Array.toList_setIfInBounds, List.take_set, ]
    have : A.toList.take (j + 1) = A.toList.take j ++ [A.toList[j]'(by simpa using hlt)] := by rw [List.take_succ_eq_append_getElem]
    rw [this, List.set_append_right _ _ (by simp; exact Nat.min_le_left _ _)]
    have hmin : min j A.size = j := Nat.min_eq_left (Nat.le_of_lt hlt)
    simp [hmin]
theorem buildS_done {ty : TypeId} {len : Nat} {parts : Array (Nat × Operand)} (ho : o.op = .buildSlice ty len parts) (h : (zBuildS P ds (zGeneric P ext ds o s) ty len parts.toList s).run c kk b st t M = some r) : Done P ext c ds o s kk b st t M r := by
  unfold zBuildS at h
  simp only [underZ_eq, infoZ_eq, zeroZ_eq] at h
  split at h
  · rename_i e h1
    split at h
    · rename_i i z h2 h3
      cases hg : (Nat.beq i.size 1 && Nat.ble len 16777216 && Nat.beq parts.toList.length len && inOrder 0 parts.toList && plains z && !(Nat.beq z.size 0) && !(isObj e)) with
      | false => simp only [hg, cond_false] at h; exact generic_done h
      | true =>
        simp only [hg, cond_true] at h
        simp only [Bool.and_eq_true, Bool.not_eq_true'] at hg
        obtain ⟨⟨⟨⟨⟨⟨g1, g2⟩, g3⟩, g4⟩, g5⟩, g6⟩, g7⟩ := hg
        have hsz : i.size = 1 := Nat.eq_of_beq_eq_true g1
        have hle : len ≤ 16777216 := Nat.le_of_ble_eq_true g2
        have hpl : parts.toList.length = len := Nat.eq_of_beq_eq_true g3
        have hz : z.size ≠ 0 := by intro h0; rw [h0] at g6; cases g6
        have h : (zOps ds (parts.toList.map (·.2))).run st t (fun vs => Bool.rec (motive := fun _ => Ans) ((zGeneric P ext ds o s).run c kk b st t M) (zPut s kk (Nat.succ b) st t (mPut M b ⟨vs, e, true⟩) (.slice (some ⟨b, 0, none⟩) len len)) (lOnes vs)) = some r := h
        obtain ⟨vs, h4, h⟩ := zOps_some h
        rcases brec_some h with ⟨_, h⟩ | ⟨hon, h⟩
        · exact generic_done h
        · rw [lOnes_eq] at hon
          rw [mPut_eq] at h
          obtain ⟨h5, h6⟩ := inOrder_evP _ _ _ g4 h4
          have hlen : vs.length = len := h6.trans hpl
          refine .alloc (by simp [kindOf, ho]) (bl := ⟨vs, e, true⟩) (mk := rowTo len len) ?_ h
          have hfill : ∀ z' : Array Value, Instr.fill (fun n => some (n, 1)) ((Array.range len).map (z'[· % z'.size]!)) ((List.range' 0 vs.length).zip vs) = some vs.toArray := by
            intro z'
            have := fill_order vs 0 ((Array.range len).map (z'[· % z'.size]!)) hon (by simp [hlen])
            simp only [Nat.mul_one] at this
            rw [this]
            simp
          have h0 : allocA0 P (evS ds st t) (.buildSlice ty len parts) = some (⟨vs, e, true⟩, rowTo len len) := by
            simp only [allocA0, h1, h5, h2, hsz, Nat.mul_one, if_pos hle]
            by_cases hl : len = 0
            · subst hl
              have hv : vs = [] := List.length_eq_zero_iff.1 hlen
              subst hv
              simp [Instr.fill, plains]
            · simp only [hl, if_false, h3, hfill]
              have hc : vs.toArray.size = len ∧ plains z = true ∧ (False ∨ z.size ≠ 0) := ⟨by simpa using hlen, g5, .inr hz⟩
              rw [if_pos hc]
          simp only [allocA, ho, h0, g7, cond_false]
    · exact generic_done h
  · exact generic_done h
theorem makeS_done {ty : TypeId} {p q : Operand} (ho : o.op = .makeSlice ty p q) (h : (zMakeS P ds (zGeneric P ext ds o s) ty p q s).run c kk b st t M = some r) : Done P ext c ds o s kk b st t M r := by
  unfold zMakeS at h
  simp only [underZ_eq, infoZ_eq, zeroZ_eq] at h
  split at h
  · rename_i e h1
    split at h
    · rename_i i z h2 h3
      split at h
      · rename_i v hzv
        cases hg : (Nat.beq i.size 1 && plains z && !(isObj e)) with
        | false => simp only [hg, cond_false] at h; exact generic_done h
        | true =>
          simp only [hg, cond_true] at h
          simp only [Bool.and_eq_true, Bool.not_eq_true'] at hg
          obtain ⟨⟨g1, g5⟩, g7⟩ := hg
          have hsz : i.size = 1 := Nat.eq_of_beq_eq_true g1
          obtain ⟨x, hx, h⟩ := zOp_some (ds := ds) (x := p) (st := st) (t := t) h
          obtain ⟨y, hy, h⟩ := zOp_some (ds := ds) (x := q) (st := st) (t := t) h
          rcases vNat_some (v := x) h with h | ⟨k1, l, rfl, h'⟩
          · exact generic_done h
          · rcases vNat_some (v := y) h' with h | ⟨k2, n, rfl, h⟩
            · exact generic_done h
            · rcases brec_some h with ⟨_, h⟩ | ⟨hb1, h⟩
              · exact generic_done h
              · rcases brec_some h with ⟨_, h⟩ | ⟨hb2, h⟩
                · exact generic_done h
                · rcases brec_some h with ⟨_, h⟩ | ⟨hb3, h⟩
                  · exact generic_done h
                  · rw [mPut_eq, lRep_eq] at h
                    have e1 : l ≤ n := Nat.le_of_ble_eq_true hb1
                    have e2 : n ≤ 281474976710656 := Nat.le_of_ble_eq_true hb2
                    have e3 : i.bytes * n ≤ 281474976710656 := Nat.le_of_ble_eq_true hb3
                    refine .alloc (by simp [kindOf, ho]) (bl := ⟨List.replicate n v, e, true⟩) (mk := rowTo l n) ?_ h
                    have hzs : z.size = 1 := by
                      have := congrArg List.length hzv
                      simpa using this
                    have hz0 : ∀ i, z[i % z.size]! = v := by
                      intro i
                      rw [hzs, Nat.mod_one]
                      have : z = #[v] := by apply Array.ext'; simpa using hzv
                      rw [this]; rfl
                    have hcells : zcells z n = List.replicate n v := by
                      unfold zcells
                      apply List.ext_getElem
                      · simp
                      · intro i h1 h2; simp [hz0]
                    have hcond : (0 : Int) ≤ Int.ofNat l ∧ (Int.ofNat l : Int) ≤ Int.ofNat n ∧ (Int.ofNat n : Int) ≤ 281474976710656 ∧ (i.bytes : Int) * Int.ofNat n ≤ 281474976710656 := by
                      simp only [Int.ofNat_eq_natCast]
                      refine ⟨by omega, by omega, by omega, ?_⟩
                      have : ((i.bytes * n : Nat) : Int) ≤ 281474976710656 := by omega
                      simpa using this
                    have h0 : allocA0 P (evS ds st t) (.makeSlice ty p q) = some (⟨List.replicate n v, e, true⟩, rowTo l n) := by
                      simp only [allocA0, h1, hx, hy, h2, hsz, Nat.mul_one]
                      rw [if_pos hcond]
                      simp only [Int.ofNat_eq_natCast, Int.toNat_natCast]
                      by_cases hn : n = 0
                      · subst hn
                        simp [plains, zcells]
                      · simp only [hn, if_false, h3]
                        have hc : plains z = true ∧ (False ∨ z.size ≠ 0) := ⟨g5, .inr (by omega)⟩
                        rw [if_pos hc, hcells]
                    simp only [allocA, ho, h0, g7, cond_false]
      · exact generic_done h
    · exact generic_done h
  · exact generic_done h
theorem callee_done {cl : Call} (ho : o.op = .call cl) (h : (zCallee P ds (zGeneric P ext ds o s) cl s).run c kk b st t M = some r) : Done P ext c ds o s kk b st t M r := by
  unfold zCallee at h
  split at h
  · rename_i f hc
    rw [callableZ_eq] at h
    cases hcb : callable P f with
    | false => simp only [hcb, cond_false] at h; exact generic_done h
    | true =>
      simp only [hcb, cond_true] at h
      obtain ⟨vs, h1, h⟩ := zOps_some (k := fun l => ansK (fun v M' => zPut s kk b st t M' v) (c.call f l M)) h
      obtain ⟨v, M', h2, h3⟩ := ansK_some h
      refine ⟨v, M', b, ?_, h3⟩
      have hk : kindOf P o = .call := by simp [kindOf, ho, hc]
      unfold Acts; rw [hk]
      refine ⟨rfl, .inl ⟨f, #[] ++ vs.toArray ++ #[], ?_, by simpa using h2⟩⟩
      simp only [callOf, ho, hc, evS, h1, hcb, cond_true]
  · rename_i bi hc
    unfold zBuiltin at h
    simp only [underZ_eq] at h
    split at h
    · rename_i x ty h1 h2
      split at h
      · rename_i e h3
        obtain ⟨v, h4, h⟩ := zU_some h
        unfold zLenS at h
        dsimp only at h
        rcases vLen_some h with h | ⟨a, n, cp, rfl, h'⟩
        · cases h
        · refine .pure (by simp [kindOf, ho, hc, h2, h3]) ?_ h'
          simp only [pureV, ho, hc, h1, evL, h4, h2, lenV, h3]; rfl
      · exact generic_done h
    · rename_i h1 h2; exact append_done ho hc h1 h2 h
    · exact generic_done h
  · exact generic_done h
theorem open_done (h : (zOpen P ext ds o s).run c kk b st t M = some r) : Done P ext c ds o s kk b st t M r := by
  unfold zOpen at h
  split at h
  · rename_i x ho
    obtain ⟨v, h1, h2⟩ := zOp_some h
    exact .pure (by simp [kindOf, ho]) (by simp [pureV, ho, h1]) h2
  · rename_i x ho
    obtain ⟨v, h1, h2⟩ := zOp_some h
    exact .pure (by simp [kindOf, ho]) (by simp [pureV, ho, h1]) h2
  · rename_i c' x y ho
    obtain ⟨u, h1, h⟩ := zOp_some (ds := ds) (x := c') (st := st) (t := t) h
    obtain ⟨v, h2, h⟩ := zOp_some (ds := ds) (x := x) (st := st) (t := t) h
    obtain ⟨w, h3, h⟩ := zOp_some (ds := ds) (x := y) (st := st) (t := t) h
    rcases vBool_some h with h | ⟨q, rfl, h'⟩
    · cases h
    · cases q with
      | false => exact .pure (by simp [kindOf, ho]) (by simp [pureV, ho, h1, h2, h3]) h'
      | true => exact .pure (by simp [kindOf, ho]) (by simp [pureV, ho, h1, h2, h3]) h'
  · rename_i x ho
    obtain ⟨v, h1, h2⟩ := zU_some h
    obtain ⟨u, h3, h4⟩ := zNil_some (P := P) ho h1 h2
    exact .pure (by simp [kindOf, ho]) h3 h4
  · rename_i op ty x y yt ho
    obtain ⟨u, v, h1, h2, h⟩ := zB_some h
    obtain ⟨w, h3, h4⟩ := zBin_some h
    exact .pure (by simp [kindOf, ho]) (by simp [pureV, ho, h1, h2, h3]) h4
  · rename_i ho; exact conv_done ho h
  · rename_i ho; exact fieldAddr_done ho h
  · rename_i ho; exact indexAddr_done ho h
  · rename_i x i ho
    obtain ⟨v, h1, h⟩ := zU_some h
    unfold zTupAt at h
    dsimp only at h
    rcases vTup_some h with h | ⟨vs, rfl, h'⟩
    · cases h
    · rcases lHead_some h' with ⟨_, h⟩ | ⟨u, h2, h⟩
      · cases h
      · rw [head_drop] at h2
        exact .pure (by simp [kindOf, ho]) (by simp only [pureV, ho, h1, extractV]; rw [← h2]; simp) h
  · rename_i ty x ho
    obtain ⟨u, h1, h⟩ := zOp_some h
    obtain ⟨v, h2, h⟩ := zLoad_some h
    exact .read (by simp [kindOf, ho]) (by simp [readV, ho, h1, h2]) h
  · rename_i ho; exact store_done ho h
  · rename_i ty x ho
    cases hob : isObj ty with
    | true => simp only [hob, cond_true] at h; exact generic_done h
    | false =>
      simp only [hob, cond_false] at h
      obtain ⟨v, h1, h⟩ := zOp_some (ds := ds) (x := x) (st := st) (t := t) h
      rcases vOne_some h with h | ⟨hv1, hv2, h⟩
      · exact generic_done h
      · rw [mPut_eq] at h
        refine .alloc (by simp [kindOf, ho]) (bl := ⟨[v], ty, true⟩) (mk := ptrTo) ?_ h
        simp only [allocA, ho, allocA0, h1, hob, cond_false, vagg_one hv2]
  · rename_i ho; exact callee_done ho h
  · rename_i ho; exact buildS_done ho h
  · rename_i ho; exact makeS_done ho h
  · exact generic_done h
end
end Go.Proofs.YtopblipficpilaaGreatDoor.AY
