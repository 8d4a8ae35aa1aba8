/- The layer, fourteenth part: append. -/
import Derived.Test.YthheaehpnleiaaaReplyBack1
namespace Go.Proofs.Ythheaehpnleiaaa.AX
open Go
set_option linter.unusedVariables false
set_option linter.unusedSimpArgs false

def delM (m : Mm) (b : Nat) : Mm := fun i => if i = b then none else m i
theorem del_get (M : Mem) (b : Nat) : (M.del b).get = delM M.get b := funext fun i => Mem.get_del M b i

/-- a block that goes on under another number -/
theorem HR.move {P : Program} {ρ : Emb} {m : Mm} {w w' : World} (hr : HR P ρ m w) {b id p : Nat} {blk : Blk} {f : Inf} (hb : m b = some blk) (hrw : blk.rw = true) (hf : ρ b = some f) (hid : ρ id = none) {cells : List Value} {cs' : Array Value} {fz : Nat × Nat}
    (hsz : cs'.size = f.room) (hfz : fz = (0, 0) ∨ fz = (cs'.size, cs'.size + 1)) (hlen : p + cells.length ≤ f.room)
    (hcs : ∀ (o : Nat) (v : Value), cells[o]? = some v → ∃ v', cs'[p + o]? = some v' ∧ VR P ρ v v') (hw : w'.heap = w.heap.setIfInBounds f.blk (.cells cs' f.elem fz)) (hio : Io w w') :
    HR P (updE ρ id ⟨f.blk, p, f.room, f.elem⟩) (updM (delM m b) id ⟨cells, f.elem, true⟩) w' ∧ Ext ρ m w (updE ρ id ⟨f.blk, p, f.room, f.elem⟩) (updM (delM m b) id ⟨cells, f.elem, true⟩) w' := by
  obtain ⟨f₀, hf₀, ho⟩ := hr.one b blk hb
  rw [hf] at hf₀; cases hf₀
  have hlt := ho.lt
  have hsub : Sub ρ (updE ρ id ⟨f.blk, p, f.room, f.elem⟩) := fun i g hg => by
    unfold updE
    have : i ≠ id := by rintro rfl; rw [hid] at hg; cases hg
    simp [this, hg]
  have hoff : ∀ B, B ≠ f.blk → w'.heap[B]? = w.heap[B]? := fun B hB => by rw [hw, Array.getElem?_setIfInBounds_ne (Ne.symm hB)]
  have hother : ∀ i bi fi, i ≠ b → m i = some bi → ρ i = some fi → fi.blk ≠ f.blk := fun i bi fi hi hmi hfi => (hr.apart b i blk bi f fi (Ne.symm hi) hb hmi hrw hf hfi).symm
  have old : ∀ i bi, i ≠ id → updM (delM m b) id ⟨cells, f.elem, true⟩ i = some bi → i ≠ b ∧ m i = some bi := fun i bi hi h => by
    unfold updM delM at h
    simp only [hi, if_false] at h
    split at h
    · cases h
    · rename_i hn; exact ⟨hn, h⟩
  refine ⟨⟨fun i c hi => ?_, ?_⟩, ⟨hsub, by rw [hw]; simp, fun B hB hnw => hoff B fun h => hnw ⟨b, blk, f, hb, hrw, hf, h.symm⟩, fun i g hi hg => ?_, fun i c hi => ?_, hio⟩⟩
  · by_cases hii : i = id
    · subst hii
      simp only [updM, if_true, Option.some.injEq] at hi; subst hi
      refine ⟨⟨f.blk, p, f.room, f.elem⟩, by simp [updE], rfl, hlen, cs', f.elem, fz, by rw [hw]; simp [hlt], hsz, fun _ => ⟨rfl, hfz⟩, fun o v hv => ?_⟩
      obtain ⟨v', h1, h2⟩ := hcs o v hv
      exact ⟨v', h1, h2.mono hsub⟩
    · obtain ⟨hn, hm⟩ := old i c hii hi
      obtain ⟨g, hg, hog⟩ := hr.one i c hm
      exact ⟨g, hsub i g hg, hog.mono hsub (hoff _ (hother i c g hn hm hg))⟩
  · intro i j bi bj fi fj hij hi hj hr' hfi hfj
    by_cases hii : i = id
    · have hjj : j ≠ id := fun h => hij (hii.trans h.symm)
      obtain ⟨hn, hm⟩ := old j bj hjj hj
      simp only [updE, hii, if_true, Option.some.injEq] at hfi
      simp only [updE, hjj, if_false] at hfj
      subst hfi
      exact (hother j bj fj hn hm hfj).symm
    · obtain ⟨hn, hm⟩ := old i bi hii hi
      simp only [updE, hii, if_false] at hfi
      by_cases hjj : j = id
      · simp only [updE, hjj, if_true, Option.some.injEq] at hfj
        subst hfj
        exact hother i bi fi hn hm hfi
      · obtain ⟨hn2, hm2⟩ := old j bj hjj hj
        simp only [updE, hjj, if_false] at hfj
        exact hr.apart i j bi bj fi fj hij hm hm2 hr' hfi hfj
  · unfold updE at hg
    by_cases hii : i = id
    · simp only [hii, if_true, Option.some.injEq] at hg; subst hg; exact .inr ⟨b, blk, f, hb, hrw, hf, rfl⟩
    · simp only [hii, if_false] at hg; rw [hi] at hg; cases hg
  · by_cases hii : i = id
    · subst hii; exact .inr hid
    · obtain ⟨_, hm⟩ := old i c hii hi; exact .inl ⟨c, hm, fun h => h⟩

theorem run_zeroC' {P : Program} {t : TypeId} {cs : Array Value} (h : zeroC P t = some cs) : ∃ z, (∀ w, (zeroValue t).run P w = .ok z w) ∧ z.cells = cs := by
  unfold zeroC at h
  split at h
  · rename_i i h1
    split at h
    · rename_i z h2
      cases hp : plains z.cells with
      | false => simp [hp] at h
      | true => simp [hp] at h; subst h; exact ⟨z, fun w => by simp [zeroValue, typeInfo, h1, h2], rfl⟩
    · cases h
  · cases h

theorem execOp_append {P : Program} {w : World} {o : Oper} {a : Act} {p q : Operand} {t tx : TypeId} (ho : o.op = .call { callee := .builtin .append, args := #[p, q], argTypes := #[t, tx] }) :
    (execOp a.eval o).run P w = ((Builtin.append_ #[t, tx] o.type #[a.eval p, a.eval q]).run P w).andThen fun v w' => .ok (.value v) w' := by
  unfold execOp
  simp only [ho, resolve, Sem.run_bind, Sem.run_pure, Result.andThen_ok, invoke, builtin, List.map_toArray, List.map_cons, List.map_nil]

theorem free_upd {ρ : Emb} {n id : Nat} {f : Inf} (h : Free ρ n) (hid : id = n) : Free (updE ρ id f) (n + 1) := fun i hi => by
  unfold updE
  have : i ≠ id := by omega
  simp [this, h i (by omega)]

/-- the run that makes a new row -/
theorem grown_out {P : Program} {ρ : Emb} {M N : Mem} {w : World} (hr : HR P ρ M.get w) (hf : Free ρ M.next) (hN : Within N.get M.get) (hnx : N.next = M.next) {e : TypeId} {i : TypeInfo} (hi : P.info? e = some i) {z : Value} (hz : z.cells.size = i.size)
    {olds news olds' news' : List Value} {k n c : Nat} (h1 : VL P ρ olds olds') (h2 : VL P ρ news news') (l1 : olds'.length = k * i.size) (l2 : news'.length = n * i.size) :
    ∃ ρ', VR P ρ' (grownE P N e (olds ++ news) (k + n)).1 (.slice (some ⟨w.heap.size, 0, none⟩) (k + n) (grownCap w (k + n) c e)) ∧
      HR P ρ' (grownE P N e (olds ++ news) (k + n)).2.get { w with drawn := w.drawn + 1, heap := w.heap.push (.cells (olds'.toArray ++ news'.toArray ++ Builtin.zeroCells z.cells (grownCap w (k + n) c e - (k + n))) e) } ∧
      Free ρ' (grownE P N e (olds ++ news) (k + n)).2.next ∧
      Grow ρ M w ρ' (grownE P N e (olds ++ news) (k + n)).2 { w with drawn := w.drawn + 1, heap := w.heap.push (.cells (olds'.toArray ++ news'.toArray ++ Builtin.zeroCells z.cells (grownCap w (k + n) c e - (k + n))) e) } := by
  have hcap : k + n ≤ grownCap w (k + n) c e := by unfold grownCap Question.cut; exact Nat.le_add_right _ _
  generalize grownCap w (k + n) c e = cap at *
  have hid : ρ N.next = none := hf _ (by omega)
  have hsize : (olds'.toArray ++ news'.toArray ++ Builtin.zeroCells z.cells (cap - (k + n))).size = cap * i.size := by
    simp only [Array.size_append, List.size_toArray, Builtin.zeroCells, Array.size_map, Array.size_range, l1, l2, hz]
    rw [← Nat.add_mul, ← Nat.add_mul]; congr 1; omega
  have hvl := h1.append h2
  have hl := hvl.length
  obtain ⟨q1, q2, q3⟩ := (hr.within hN).alloc (cells := olds ++ news) (cs := olds'.toArray ++ news'.toArray ++ Builtin.zeroCells z.cells (cap - (k + n))) (elem := e) (fz := (0, 0)) hid (.inl rfl)
    (by rw [hl, hsize, List.length_append, l1, l2, ← Nat.add_mul]; exact Nat.mul_le_mul_right _ hcap)
    (fun j v hv => by
      obtain ⟨v', g1, g2⟩ := hvl.at j v hv
      refine ⟨v', ?_, g2⟩
      have hlt : j < (olds' ++ news').length := (List.getElem?_eq_some_iff.1 g1).1
      rw [Array.getElem?_append_left (by simpa using hlt)]
      simpa using g1) (w' := { w with drawn := w.drawn + 1, heap := w.heap.push (.cells (olds'.toArray ++ news'.toArray ++ Builtin.zeroCells z.cells (cap - (k + n))) e) }) rfl ⟨rfl, rfl, rfl⟩ (rw_ := true)
  have hget : (grownE P N e (olds ++ news) (k + n)).2.get = updM N.get N.next ⟨olds ++ news, e, true⟩ := by
    show ((N.put N.next _).bump 1).get = _
    rw [show ((N.put N.next ⟨olds ++ news, e, true⟩).bump 1).get = (N.put N.next ⟨olds ++ news, e, true⟩).get from rfl, put_get]
  refine ⟨updE ρ N.next ⟨w.heap.size, 0, (olds'.toArray ++ news'.toArray ++ Builtin.zeroCells z.cells (cap - (k + n))).size, e⟩,
    row_new (n := w.heap.size) (s := (olds'.toArray ++ news'.toArray ++ Builtin.zeroCells z.cells (cap - (k + n))).size) (e := e) (by simp only [updE, if_true]) hcap (.inr rfl) (by rw [cellsOf_eq hi, hsize]; exact Nat.le_refl _), by rw [hget]; exact q1, ?_, ⟨by rw [hget]; exact q2.less hN, fun j hj hn => ?_, ?_⟩⟩
  · show Free _ (N.next + 1)
    rw [hnx]
    exact free_upd hf rfl
  · unfold updE
    have : j ≠ N.next := by omega
    simp [this, hn]
  · show M.next ≤ N.next + 1
    omega

theorem appendE_ok {P : Program} {o : Oper} {ev : Operand → Option Value} {M M' : Mem} {t tx : TypeId} {p q : Operand} {s x v : Value} (ho : o.op = .call { callee := .builtin .append, args := #[p, q], argTypes := #[t, tx] }) (hs : ev p = some s) (hx : ev q = some x)
    (h : appendE P M t tx s x = some (v, M')) : EffOk P o ev M v M' := by
  refine EffOk.of_run fun ρ a w hop hr hf => ?_
  have e1 := hop.at (x := p) (by simp [ho, Op.operands, Call.operands]) hs
  have e2 := hop.at (x := q) (by simp [ho, Op.operands, Call.operands]) hx
  rw [execOp_append ho]
  generalize a.eval p = s' at e1
  generalize a.eval q = x' at e2
  unfold appendE at h
  split at h
  · rename_i e d h1 h2
    split at h
    · rename_i i z h3 h4
      split at h
      · cases h
      · rename_i hcond
        have c1 : isInt d = false := by cases hh : isInt d <;> simp_all
        have c2 : i.bytes ≠ 0 := fun hh => hcond (.inr (.inl hh))
        have c3 : z.size = i.size := Classical.byContradiction fun hh => hcond (.inr (.inr hh))
        obtain ⟨zv, hz1, hz2⟩ := run_zeroC' h4
        split at h
        · rename_i k olds n news g1 g2
          obtain ⟨k1, olds', k2, k3, k4⟩ := run_content g1 e1 hr
          obtain ⟨n1, news', n2, n3, n4⟩ := run_content g2 e2 hr
          have hNself : Within M.get M.get := fun _ _ h => h
          have stay : ∀ base c', s' = .slice base k c' → k ≤ c' → n = 0 → ((Builtin.append_ #[t, tx] o.type #[s', x']).run P w).andThen (fun v w' => .ok (Next.value v) w') = .ok (Next.value s') w := by
            rintro base c' rfl hkc rfl
            have hnil : news' = [] := List.eq_nil_of_length_eq_zero (by rw [n2]; simp)
            subst hnil
            rw [run_append_in h1 h2 c1 h3 n1 (n4 w fun _ _ => rfl) (by omega)]
            cases base <;> rfl
          have out : ∀ base c', s' = .slice base k c' → c' < k + n → (k + n) * i.bytes ≤ 140737488355328 → ∀ N : Mem, Within N.get M.get → N.next = M.next → (v, M') = grownE P N e (olds ++ news) (k + n) →
              ∃ v' ρ' w', (((Builtin.append_ #[t, tx] o.type #[s', x']).run P w).andThen (fun v w' => .ok (Next.value v) w') = .ok (Next.value v') w' ∨ (((Builtin.append_ #[t, tx] o.type #[s', x']).run P w).andThen (fun v w' => .ok (Next.value v) w') = .ok Next.skip w' ∧ v' = undef)) ∧
                VR P ρ' v v' ∧ HR P ρ' M'.get w' ∧ Free ρ' M'.next ∧ Grow ρ M w ρ' M' w' := by
            rintro base c' rfl hlt hbytes N hN hnx hv
            have hrun := run_append_out (ty := o.type) h1 h2 c1 h3 hz1 (base := base) (k := k) (c := c') c2 n1 k4 n4 hlt hbytes
            obtain ⟨ρ', q1, q2, q3, q4⟩ := grown_out (c := c') hr hf hN hnx h3 (z := zv) (by rw [hz2]; exact c3) k3 n3 k2 n2
            rw [← hv] at q1 q2 q3 q4
            exact ⟨_, ρ', _, .inl (by rw [hrun]; rfl), q1, q2, q3, q4⟩
          split at h
          · rename_i m c
            cases e1
            simp only [contentV, Option.some.injEq, Prod.mk.injEq] at g1
            obtain ⟨rfl, rfl⟩ := g1
            split at h
            · rename_i hn0
              cases h
              exact ⟨_, ρ, w, .inl (stay none 0 rfl (Nat.le_refl _) hn0), .nils, hr, hf, Grow.refl _ _ _⟩
            · rename_i hn0
              split at h
              · rename_i hbytes
                exact out none 0 rfl (by omega) hbytes M hNself rfl (Option.some.inj h).symm
              · cases h
          · rename_i b off k' c
            have e1' := e1
            cases e1 with
            | slice hfb hn hc hp hroom hsp =>
              rename_i c' pp sp f
              split at h
              · rename_i hn0
                cases h
                have hkk : k = k' := by
                  have := k1
                  simp only [Builtin.lenOf] at this
                  injection this with this
                  exact this.symm
                subst hkk
                exact ⟨_, ρ, w, .inl (stay _ _ rfl hn hn0), e1', hr, hf, Grow.refl _ _ _⟩
              · rename_i hn0
                split at h
                · rename_i hcc
                  obtain ⟨hbytes, rfl, hones⟩ := hcc
                  split at h
                  · rename_i hex
                    have : c = c' := hc.resolve_right hex.1
                    subst this
                    exact out _ _ rfl hex.2 hbytes M hNself rfl (Option.some.inj h).symm
                  · split at h
                    · rename_i blk hb
                      split at h
                      · rename_i hbc
                        obtain ⟨hrw, rfl⟩ := hbc
                        have hN : Within (M.del b).get M.get := fun j c hj => by
                          rw [del_get] at hj; unfold delM at hj
                          split at hj
                          · cases hj
                          · exact hj
                        by_cases hlt : c' < k + n
                        · exact out _ _ rfl hlt hbytes (M.del b) hN rfl (Option.some.inj h).symm
                        · obtain ⟨f', hf', hone⟩ := hr.one b blk hb
                          rw [hfb] at hf'; cases hf'
                          obtain rfl := hsp (by omega)
                          obtain ⟨cs, fz, r1, r2, r3, r4⟩ := hone.own (by first | assumption | simp_all)
                          have hel := hone.elem
                          have hcz : P.cellsOf f.elem = i.size := by rw [hel]; exact cellsOf_eq h3
                          rw [hcz] at hroom
                          have hmul : (k + n) * i.size ≤ c' * i.size := Nat.mul_le_mul_right _ (by omega)
                          rw [Nat.add_mul] at hmul
                          have hle : pp + k * i.size + 0 + news'.length ≤ cs.size := by rw [n2, r2]; omega
                          have hst := run_storeCells_own (P := P) (o := pp + k * i.size) news' 0 w cs r1 (r3 hrw) hle (by rw [n3.ones]; exact hones)
                          have hrun := run_append_in (ty := o.type) h1 h2 c1 h3 (base := some ⟨f.blk, pp, none⟩) (k := k) (c := c') n1 (n4 w fun _ _ => rfl) (by omega)
                          simp only [addr_add] at hrun
                          rw [hst] at hrun
                          simp only [Result.andThen_ok] at hrun
                          have hid : ρ M.next = none := hf _ (Nat.le_refl _)
                          have hvl := k3.append n3
                          -- the elder elements lie where the slice begins
                          have hold : ∀ (j : Nat) (u : Value), olds'[j]? = some u → cs[pp + j]? = some u := by
                            intro j u hu
                            have hlt' : j < olds'.length := (List.getElem?_eq_some_iff.1 hu).1
                            have hk0 : 0 < k := by
                              rcases Nat.eq_zero_or_pos k with h0 | h0
                              · rw [h0, Nat.zero_mul] at k2; omega
                              · exact h0
                            have hpe := hp (.inl hk0)
                            have hfc := k4 w fun _ _ => rfl
                            unfold contentV at g1
                            simp only [show ¬ k = 0 by omega, if_false, hb] at g1
                            split at g1
                            · rename_i hle'
                              obtain ⟨us, u1, u2, u3⟩ := hone.range hle'
                              have hfc2 := run_firstCells_some (P := P) w i.size k ⟨f.blk, pp, none⟩ k c' us u1 (fun j u hu => by rw [hpe]; exact u3 j u hu)
                              rw [hfc2] at hfc
                              have : us = olds' := by
                                injection hfc with hfc _
                                exact Array.toList_inj.2 hfc
                              subst this
                              have := u3 j u hu
                              rw [addr_add] at this
                              simp [World.cell?, r1] at this
                              rw [hpe]; exact this
                            · cases g1
                          obtain ⟨q1, q2⟩ := hr.move (p := pp) (id := M.next) (cells := olds ++ news) (cs' := setR cs (pp + k * i.size + 0) news') (fz := fz) hb hrw hfb hid (by rw [setR_size]; exact r2) (by rw [setR_size]; exact r3 hrw)
                            (by rw [hvl.length, List.length_append, k2, n2]; omega)
                            (fun j u hu => by
                              obtain ⟨u', g3, g4⟩ := hvl.at j u hu
                              refine ⟨u', ?_, g4⟩
                              rw [setR_get _ _ _ _ hle]
                              by_cases hj : j < olds'.length
                              · rw [List.getElem?_append_left hj] at g3
                                rw [if_neg (by omega)]
                                exact hold j u' g3
                              · rw [List.getElem?_append_right (by omega)] at g3
                                have hlt' : j - olds'.length < news'.length := (List.getElem?_eq_some_iff.1 g3).1
                                rw [if_pos (by omega), show pp + j - (pp + k * i.size + 0) = j - olds'.length by omega]
                                exact g3) (w' := { w with heap := w.heap.setIfInBounds f.blk (.cells (setR cs (pp + k * i.size + 0) news') f.elem fz) }) rfl ⟨rfl, rfl, rfl⟩
                          have hv := Option.some.inj h
                          have hget : (grownE P (M.del b) blk.elem (olds ++ news) (k + n)).2.get = updM (delM M.get b) M.next ⟨olds ++ news, f.elem, true⟩ := by
                            show (((M.del b).put M.next ⟨olds ++ news, blk.elem, true⟩).bump 1).get = _
                            rw [show (((M.del b).put M.next ⟨olds ++ news, blk.elem, true⟩).bump 1).get = ((M.del b).put M.next ⟨olds ++ news, blk.elem, true⟩).get from rfl, put_get, del_get, hel]
                          have hM : (grownE P (M.del b) blk.elem (olds ++ news) (k + n)).2 = M' := by rw [hv]
                          have hV : (grownE P (M.del b) blk.elem (olds ++ news) (k + n)).1 = v := by rw [hv]
                          rw [hM] at hget
                          have hnx : M'.next = M.next + 1 := by rw [← hM]; rfl
                          refine ⟨_, _, _, .inl (by rw [hrun]; rfl), ?_, by rw [hget]; exact q1, by rw [hnx]; exact free_upd hf rfl, ⟨by rw [hget]; exact q2, fun j hj hn => ?_, by omega⟩⟩
                          · rw [← hV]
                            have := VR.slice (P := P) (ρ := updE ρ M.next ⟨f.blk, pp, f.room, f.elem⟩) (i := M.next) (o := 0) (n := k + n) (c := unk) (c' := c') (p := pp) (f := ⟨f.blk, pp, f.room, f.elem⟩) (by simp [updE]) (by omega) (.inr rfl) (fun _ => rfl) (by rw [hcz]; exact hroom) (fun _ => rfl)
                            exact this
                          · unfold updE
                            have : j ≠ M.next := by omega
                            simp [this, hn]
                      · cases h
                    · cases h
                · cases h
          · cases h
        · cases h
    · cases h
  · cases h
end Go.Proofs.Ythheaehpnleiaaa.AX

/- The layer, fifteenth part: all operations together. -/
namespace Go.Proofs.Ythheaehpnleiaaa.AX
open Go
set_option linter.unusedVariables false
set_option linter.unusedSimpArgs false

def evO (ev : Operand → Option Value) : Option Operand → Option (Option Value)
  | none => some none
  | some x => (ev x).map some
theorem evO_at {P : Program} {ρ : Emb} {ev : Operand → Option Value} {cv : Operand → Value} {x : Option Operand} {r : Option Value} (hx : ∀ y, x = some y → ∀ v, ev y = some v → VR P ρ v (cv y)) (h : evO ev x = some r) : VO P ρ r (x.map cv) := by
  cases x with
  | none => simp only [evO, Option.some.injEq] at h; subst h; exact .none
  | some y =>
    simp only [evO] at h
    cases hv : ev y with
    | none => rw [hv] at h; cases h
    | some v => rw [hv] at h; cases h; exact .some (hx y rfl v hv)

def lenV (P : Program) (t : TypeId) (x : Value) : Option Value := match P.underlying t, x with
  | some .string, .string s => some (.int .i64 s.size)
  | some (.array n _), _ => some (.int .i64 n)
  | some (.slice _), .slice _ n _ => some (.int .i64 n)
  | _, _ => none
theorem run_lenV {P : Program} {w : World} {ρ : Emb} {t ty : TypeId} {x x' v : Value} (h : lenV P t x = some v) (hx : VR P ρ x x') : ∃ v', (Builtin.len_ #[t] ty #[x']).run P w = .ok v' w ∧ VR P ρ v v' := by
  unfold lenV at h
  split at h
  · rename_i s h1
    cases h; cases hx
    refine ⟨_, ?_, .int _ _⟩
    simp only [Builtin.len_, List.getElem?_toArray, List.getElem?_cons_zero, Sem.run_bind, run_underlying h1, Result.andThen_ok]; rfl
  · rename_i n e h1
    cases h
    refine ⟨_, ?_, .int _ _⟩
    simp only [Builtin.len_, List.getElem?_toArray, List.getElem?_cons_zero, Sem.run_bind, run_underlying h1, Result.andThen_ok]; rfl
  · rename_i e a n c h1
    cases h
    refine ⟨_, ?_, .int _ _⟩
    cases hx <;> (simp only [Builtin.len_, List.getElem?_toArray, List.getElem?_cons_zero, Sem.run_bind, run_underlying h1, Result.andThen_ok]; rfl)
  · cases h

def extremeV (mx : Bool) : List Value → Option Value
  | [.int k x] => some (.int k x)
  | [.int k x, .int _ y] => some (.int k (bif mx then (if y > x then y else x) else (if y < x then y else x)))
  | [.int k x, .int _ y, .int _ z] => let a := (bif mx then (if y > x then y else x) else (if y < x then y else x)); some (.int k (bif mx then (if z > a then z else a) else (if z < a then z else a)))
  | _ => none
theorem run_extremeV {P : Program} {w : World} {ρ : Emb} {ts : Array TypeId} {ty : TypeId} {mx : Bool} {vs vs' : List Value} {v : Value} (h : extremeV mx vs = some v) (hx : VL P ρ vs vs') :
    ∃ v', (if mx then (Builtin.max_ ts ty vs'.toArray) else (Builtin.min_ ts ty vs'.toArray)).run P w = .ok v' w ∧ VR P ρ v v' := by
  unfold extremeV at h
  split at h
  · cases h
    cases hx with | cons h1 h2 => cases h1; cases h2; exact ⟨_, by cases mx <;> rfl, .int _ _⟩
  · cases h
    cases hx with | cons h1 h2 => cases h1; cases h2 with | cons h3 h4 => cases h3; cases h4; exact ⟨_, by cases mx <;> rfl, .int _ _⟩
  · cases h
    cases hx with | cons h1 h2 => cases h1; cases h2 with | cons h3 h4 => cases h3; cases h4 with | cons h5 h6 => cases h5; cases h6; exact ⟨_, by cases mx <;> rfl, .int _ _⟩
  · cases h

inductive Kind where
  | pure
  | read
  | alloc
  | eff
  | call
  deriving DecidableEq

def kindOf (P : Program) (o : Oper) : Kind := match o.op with
  | .alloc _ | .box _ _ | .buildSlice _ _ _ | .makeSlice _ _ _ => .alloc
  | .load _ _ => .read
  | .slice t _ _ _ _ => match P.underlying t with
    | some (.slice _) => .read
    | _ => .pure
  | .convert src dst _ => match P.underlying src, P.underlying dst with
    | some (.slice _), _ => .read
    | some .string, some (.slice _) => .alloc
    | _, _ => .pure
  | .store _ _ _ => .eff
  | .call c => match c.callee with
    | .builtin b => match b with
      | .len | .min | .max => .pure
      | _ => .eff
    | _ => .call
  | _ => .pure

def pureV (P : Program) (ev : Operand → Option Value) (o : Oper) : Option Value := match o.op with
  | .move x => ev x
  | .assign x => ev x
  | .pick c a b => match ev c, ev a, ev b with
    | some (.bool t), some x, some y => some (bif t then x else y)
    | _, _, _ => none
  | .nilCheck x => match ev x with
    | some (.pointer (some a)) => some (.pointer (some a))
    | _ => none
  | .binOp op t x y _ => match ev x, ev y with
    | some a, some b => binV P op t a b
    | _, _ => none
  | .unOp op _ x => match ev x with
    | some a => unV op a
    | none => none
  | .convert src dst x => match ev x with
    | some a => convV P src dst a
    | none => none
  | .makeInterface t x => match ev x with
    | some a => match P.underlying t with
      | some (.interface _) => none
      | some _ => some (.iface t a)
      | none => none
    | none => none
  | .makeFunc fn first captured => match evL ev first.toList, evL ev captured.toList with
    | some xs, some ys => some (.func fn xs.toArray ys.toArray)
    | _, _ => none
  | .fieldAddr t x f => match ev x with
    | some a => fieldAddrV P t a f
    | none => none
  | .field t x f => match ev x with
    | some a => fieldV P t a f
    | none => none
  | .indexAddr t x i => match ev x, ev i with
    | some a, some b => indexAddrV P t a b
    | _, _ => none
  | .index t x i => match ev x, ev i with
    | some a, some b => indexV P t a b
    | _, _ => none
  | .extract x i => match ev x with
    | some a => extractV a i
    | none => none
  | .build t parts => match evP ev parts.toList with
    | some ps => buildV P t ps
    | none => none
  | .slice t x lo hi mx => match ev x, evO ev lo, evO ev hi, evO ev mx with
    | some a, some l, some h, some m => sliceV P (fun _ => none) t a l h m
    | _, _, _, _ => none
  | .call c => match c.callee, evL ev c.args.toList with
    | .builtin .len, some [a] => match c.argTypes.toList with
      | [t] => lenV P t a
      | _ => none
    | .builtin .min, some vs => extremeV false vs
    | .builtin .max, some vs => extremeV true vs
    | _, _ => none
  | _ => none

def readV (P : Program) (ev : Operand → Option Value) (m : Mm) (o : Oper) : Option Value := match o.op with
  | .load t x => match ev x with
    | some a => loadV P m t a
    | none => none
  | .slice t x lo hi mx => match ev x, evO ev lo, evO ev hi, evO ev mx with
    | some a, some l, some h, some mm => sliceV P m t a l h mm
    | _, _, _, _ => none
  | .convert src dst x => match ev x with
    | some a => if src = dst then markV P m src dst a else strV P m src dst a
    | none => none
  | _ => none

def effV (P : Program) (ev : Operand → Option Value) (M : Mem) (o : Oper) : Option (Value × Mem) := match o.op with
  | .store t x y => match ev x, ev y with
    | some a, some b => match storeE P M t a b with
      | some M' => some (undef, M')
      | none => none
    | _, _ => none
  | .call c => match c.callee, c.args.toList, c.argTypes.toList with
    | .builtin .append, [p, q], [t, tx] => match ev p, ev q with
      | some s, some x => appendE P M t tx s x
      | _, _ => none
    | _, _, _ => none
  | _ => none

def callable (P : Program) (f : FuncId) : Bool := match P.funcs[f]? with
  | some fn => fn.body.isSome && !(fn.name == "runtime.NumGoroutine")
  | none => false
/-- which function is called, with what -/
def callOf (P : Program) (ev : Operand → Option Value) (o : Oper) : Option (FuncId × Array Value) := match o.op with
  | .call c => match c.callee with
    | .value f => match ev f, evL ev c.args.toList with
      | some (.func (.func fid) first captured), some vs => bif callable P fid then some (fid, first ++ vs.toArray ++ captured) else none
      | _, _ => none
    | _ => none
  | _ => none

theorem evL_known {ev : Operand → Option Value} : ∀ {xs : List Operand} {vs : List Value}, evL ev xs = some vs → ∀ x, x ∈ xs → ∃ v, ev x = some v
  | [], _, _, x, hx => by cases hx
  | y :: xs, vs, h, x, hx => by
    simp only [evL] at h
    split at h
    · rename_i v us h1 h2
      rcases List.mem_cons.1 hx with rfl | hx
      · exact ⟨v, h1⟩
      · exact evL_known h2 x hx
    · cases h
theorem evP_known {ev : Operand → Option Value} : ∀ {xs : List (Nat × Operand)} {vs : List (Nat × Value)}, evP ev xs = some vs → ∀ p, p ∈ xs → ∃ v, ev p.2 = some v
  | [], _, _, x, hx => by cases hx
  | (i, y) :: xs, vs, h, x, hx => by
    simp only [evP] at h
    split at h
    · rename_i v us h1 h2
      rcases List.mem_cons.1 hx with rfl | hx
      · exact ⟨v, h1⟩
      · exact evP_known h2 x hx
    · cases h
theorem evO_known {ev : Operand → Option Value} {x : Option Operand} {r : Option Value} (h : evO ev x = some r) (y : Operand) (hy : x = some y) : ∃ v, ev y = some v := by
  subst hy
  simp only [evO] at h
  cases hv : ev y with
  | none => rw [hv] at h; cases h
  | some v => exact ⟨v, rfl⟩

/-- every operand of such an operation is known -/
def Known (ev : Operand → Option Value) (o : Oper) : Prop := ∀ x, x ∈ o.op.operands → ∃ v, ev x = some v

theorem pureV_known {P : Program} {ev : Operand → Option Value} {o : Oper} {v : Value} (h : pureV P ev o = some v) : Known ev o := by
  intro x hx
  unfold pureV at h
  split at h
  all_goals (rename_i ho; simp only [ho, Op.operands] at hx)
  case h_1 => simp at hx; subst hx; exact ⟨v, h⟩
  case h_2 => simp at hx; subst hx; exact ⟨v, h⟩
  case h_3 =>
    split at h
    · rename_i h1 h2 h3; simp at hx; rcases hx with rfl | rfl | rfl <;> exact ⟨_, by assumption⟩
    · cases h
  case h_4 =>
    split at h
    · simp at hx; subst hx; exact ⟨_, by assumption⟩
    · cases h
  case h_5 =>
    split at h
    · simp at hx; rcases hx with rfl | rfl <;> exact ⟨_, by assumption⟩
    · cases h
  case h_6 =>
    split at h
    · simp at hx; subst hx; exact ⟨_, by assumption⟩
    · cases h
  case h_7 =>
    split at h
    · simp at hx; subst hx; exact ⟨_, by assumption⟩
    · cases h
  case h_8 =>
    split at h
    · simp at hx; subst hx; exact ⟨_, by assumption⟩
    · cases h
  case h_9 =>
    split at h
    · rename_i h1 h2
      simp at hx
      rcases hx with hx | hx
      · exact evL_known h1 x (by simpa using hx)
      · exact evL_known h2 x (by simpa using hx)
    · cases h
  case h_10 =>
    split at h
    · simp at hx; subst hx; exact ⟨_, by assumption⟩
    · cases h
  case h_11 =>
    split at h
    · simp at hx; subst hx; exact ⟨_, by assumption⟩
    · cases h
  case h_12 =>
    split at h
    · simp at hx; rcases hx with rfl | rfl <;> exact ⟨_, by assumption⟩
    · cases h
  case h_13 =>
    split at h
    · simp at hx; rcases hx with rfl | rfl <;> exact ⟨_, by assumption⟩
    · cases h
  case h_14 =>
    split at h
    · simp at hx; subst hx; exact ⟨_, by assumption⟩
    · cases h
  case h_15 =>
    split at h
    · rename_i h1
      simp at hx
      obtain ⟨n, hn⟩ := hx
      exact evP_known h1 (n, x) (by simpa using hn)
    · cases h
  case h_16 =>
    split at h
    · rename_i h1 h2 h3 h4
      simp at hx
      rcases hx with rfl | hx | hx | hx
      · exact ⟨_, h1⟩
      · exact evO_known h2 x hx
      · exact evO_known h3 x hx
      · exact evO_known h4 x hx
    · cases h
  case h_17 =>
    split at h
    · rename_i h1 h2
      simp only [Call.operands, h1] at hx
      exact evL_known h2 x (by simpa using hx)
    · rename_i h1 h2
      simp only [Call.operands, h1] at hx
      exact evL_known h2 x (by simpa using hx)
    · rename_i h1 h2
      simp only [Call.operands, h1] at hx
      exact evL_known h2 x (by simpa using hx)
    · cases h
  case h_18 => cases h

theorem readV_known {P : Program} {ev : Operand → Option Value} {m : Mm} {o : Oper} {v : Value} (h : readV P ev m o = some v) : Known ev o := by
  intro x hx
  unfold readV at h
  split at h
  all_goals (rename_i ho; simp only [ho, Op.operands] at hx)
  case h_1 =>
    split at h
    · simp at hx; subst hx; exact ⟨_, by assumption⟩
    · cases h
  case h_2 =>
    split at h
    · rename_i h1 h2 h3 h4
      simp at hx
      rcases hx with rfl | hx | hx | hx
      · exact ⟨_, h1⟩
      · exact evO_known h2 x hx
      · exact evO_known h3 x hx
      · exact evO_known h4 x hx
    · cases h
  case h_3 =>
    split at h
    · simp at hx; subst hx; exact ⟨_, by assumption⟩
    · cases h
  case h_4 => cases h

theorem allocA_known {P : Program} {ev : Operand → Option Value} {o : Oper} {r : Blk × (Nat → Value)} (h : allocA P ev o.op = some r) : Known ev o := by
  intro x hx
  unfold allocA at h
  split at h
  all_goals (rename_i ho; simp only [ho, Op.operands] at hx)
  case h_1 => simp at hx
  case h_2 =>
    split at h
    · simp at hx; subst hx; exact ⟨_, by assumption⟩
    · cases h
  case h_3 =>
    split at h
    · rename_i h1 h2
      simp at hx
      obtain ⟨n, hn⟩ := hx
      exact evP_known h2 (n, x) (by simpa using hn)
    · cases h
  case h_4 =>
    split at h
    · simp at hx; rcases hx with rfl | rfl <;> exact ⟨_, by assumption⟩
    · cases h
  case h_5 =>
    split at h
    · simp at hx; subst hx; exact ⟨_, by assumption⟩
    · cases h
  case h_6 => cases h

theorem effV_known {P : Program} {ev : Operand → Option Value} {M : Mem} {o : Oper} {r : Value × Mem} (h : effV P ev M o = some r) : Known ev o := by
  intro x hx
  unfold effV at h
  split at h
  all_goals (rename_i ho; simp only [ho, Op.operands] at hx)
  case h_1 =>
    split at h
    · simp at hx; rcases hx with rfl | rfl <;> exact ⟨_, by assumption⟩
    · cases h
  case h_2 =>
    split at h
    · rename_i h1 h2 h3
      simp only [Call.operands, h1] at hx
      split at h
      · rw [Array.empty_append, Array.mem_def, h2] at hx
        simp at hx
        rcases hx with rfl | rfl <;> exact ⟨_, by assumption⟩
      · cases h
    · cases h
  case h_3 => cases h

theorem callOf_known {P : Program} {ev : Operand → Option Value} {o : Oper} {r : FuncId × Array Value} (h : callOf P ev o = some r) : Known ev o := by
  intro x hx
  unfold callOf at h
  split at h
  · rename_i c ho
    simp only [ho, Op.operands] at hx
    split at h
    · rename_i f hc
      simp only [Call.operands, hc] at hx
      split at h
      · rename_i h1 h2
        simp at hx
        rcases hx with rfl | hx
        · exact ⟨_, h1⟩
        · exact evL_known h2 x (by simpa using hx)
      · cases h
    · cases h
  · cases h
end Go.Proofs.Ythheaehpnleiaaa.AX

/- The layer, sixteenth part: all operations together: the proof; regions that run in the one order. -/
namespace Go.Proofs.Ythheaehpnleiaaa.AX
open Go
set_option linter.unusedVariables false
set_option linter.unusedSimpArgs false

theorem run_value {P : Program} {w : World} {s : Sem Value} {v : Value} {w' : World} (h : s.run P w = .ok v w') : (do pure (Next.value (← s)) : Sem Next).run P w = .ok (.value v) w' := by
  simp only [Sem.run_bind, h, Result.andThen_ok, Sem.run_pure]

theorem pureV_ok {P : Program} {ev : Operand → Option Value} {o : Oper} {v : Value} (h : pureV P ev o = some v) (m : Mm) : StillOk P o ev m v := by
  refine StillOk.of_run fun ρ a w hop hr => ?_
  have hat : ∀ x, x ∈ o.op.operands → ∀ u, ev x = some u → VR P ρ u (a.eval x) := fun x hx u hu => hop.at hx hu
  unfold pureV at h
  split at h
  all_goals (rename_i ho; simp only [ho, Op.operands] at hat; unfold execOp; simp only [ho])
  case h_1 x => exact ⟨a.eval x, rfl, hat x (by simp) v h⟩
  case h_2 x => exact ⟨a.eval x, rfl, hat x (by simp) v h⟩
  case h_3 c x y =>
    split at h
    · rename_i t u u' h1 h2 h3
      cases h
      have e1 := hat c (by simp) _ h1
      generalize a.eval c = c' at e1
      cases e1
      cases t
      · exact ⟨a.eval y, rfl, hat y (by simp) _ h3⟩
      · exact ⟨a.eval x, rfl, hat x (by simp) _ h2⟩
    · cases h
  case h_4 x =>
    split at h
    · rename_i b h1
      cases h
      have e1 := hat x (by simp) _ h1
      generalize a.eval x = x' at e1
      cases e1 with
      | ptr hf => exact ⟨_, rfl, .ptr hf⟩
    · cases h
  case h_5 op t x y yt =>
    split at h
    · rename_i u u' h1 h2
      obtain ⟨v', g1, g2⟩ := run_binOp (w := w) (p := x) (q := y) h (hat x (by simp) _ h1) (hat y (by simp) _ h2)
      exact ⟨v', run_value g1, g2⟩
    · cases h
  case h_6 op t x =>
    split at h
    · rename_i u h1
      obtain ⟨v', g1, g2⟩ := run_unOp (w := w) h (hat x (by simp) _ h1)
      exact ⟨v', run_value g1, g2⟩
    · cases h
  case h_7 src dst x =>
    split at h
    · rename_i u h1
      obtain ⟨v', g1, g2⟩ := run_conv (w := w) h (hat x (by simp) _ h1)
      exact ⟨v', run_value g1, g2⟩
    · cases h
  case h_8 t x =>
    split at h
    · rename_i u h1
      have e1 := hat x (by simp) _ h1
      split at h
      · cases h
      · rename_i d h2 h3
        cases h
        refine ⟨.iface t (a.eval x), run_value ?_, .iface t e1⟩
        cases d <;> first
          | (exact (h2 _ rfl).elim)
          | (simp only [Instr.makeInterface, Sem.run_bind, run_underlying h3, Result.andThen_ok, Sem.run_pure])
      · cases h
    · cases h
  case h_9 fn first captured =>
    split at h
    · rename_i xs ys h1 h2
      cases h
      have e1 := (evL_at (ρ := ρ) (P := P) (cv := a.eval) (fun x hx u hu => hat x (by simp; exact .inl (by simpa using hx)) u hu) h1).vrs
      have e2 := (evL_at (ρ := ρ) (P := P) (cv := a.eval) (fun x hx u hu => hat x (by simp; exact .inr (by simpa using hx)) u hu) h2).vrs
      have m1 : (first.toList.map a.eval).toArray = first.map a.eval := by apply Array.ext'; simp
      have m2 : (captured.toList.map a.eval).toArray = captured.map a.eval := by apply Array.ext'; simp
      rw [m1] at e1
      rw [m2] at e2
      exact ⟨_, rfl, .func fn e1.1 e2.1 e1.2 e2.2⟩
    · cases h
  case h_10 t x f =>
    split at h
    · rename_i u h1
      obtain ⟨v', g1, g2⟩ := run_fieldAddrV (w := w) h (hat x (by simp) _ h1)
      exact ⟨v', run_value g1, g2⟩
    · cases h
  case h_11 t x f =>
    split at h
    · rename_i u h1
      obtain ⟨v', g1, g2⟩ := run_fieldV (w := w) h (hat x (by simp) _ h1)
      exact ⟨v', run_value g1, g2⟩
    · cases h
  case h_12 t x i =>
    split at h
    · rename_i u u' h1 h2
      obtain ⟨v', g1, g2⟩ := run_indexAddrV (w := w) h (hat x (by simp) _ h1) (hat i (by simp) _ h2)
      exact ⟨v', run_value g1, g2⟩
    · cases h
  case h_13 t x i =>
    split at h
    · rename_i u u' h1 h2
      obtain ⟨v', g1, g2⟩ := run_indexV (w := w) h (hat x (by simp) _ h1) (hat i (by simp) _ h2)
      exact ⟨v', run_value g1, g2⟩
    · cases h
  case h_14 x i =>
    split at h
    · rename_i u h1
      obtain ⟨v', g1, g2⟩ := run_extractV (P := P) (w := w) h (hat x (by simp) _ h1)
      exact ⟨v', run_value g1, g2⟩
    · cases h
  case h_15 t parts =>
    split at h
    · rename_i ps h1
      have e1 := evP_at (ρ := ρ) (P := P) (cv := a.eval) (fun p hp u hu => hat p.2 (by simp; exact ⟨p.1, by simpa using hp⟩) u hu) h1
      obtain ⟨v', g1, g2⟩ := run_build (w := w) h e1
      refine ⟨v', run_value ?_, g2⟩
      have m1 : (parts.toList.map fun (i, x) => (i, a.eval x)).toArray = parts.map fun (i, x) => (i, a.eval x) := by apply Array.ext'; simp
      rw [← m1]; exact g1
    · cases h
  case h_16 t x lo hi mx =>
    split at h
    · rename_i u l hh mm h1 h2 h3 h4
      obtain ⟨v', g1, g2⟩ := run_sliceV (m := fun _ => none) (w := w) h (hat x (by simp) _ h1) (hr.within fun _ _ h => by cases h) (evO_at (fun y hy u hu => hat y (by subst hy; simp) u hu) h2)
        (evO_at (fun y hy u hu => hat y (by subst hy; simp) u hu) h3) (evO_at (fun y hy u hu => hat y (by subst hy; simp) u hu) h4)
      exact ⟨v', run_value g1, g2⟩
    · cases h
  case h_17 c =>
    split at h
    · rename_i u h1 h2
      split at h
      · rename_i t h3
        have e1 := evL_at (ρ := ρ) (P := P) (cv := a.eval) (fun x hx u hu => hat x (by simp only [Call.operands, h1]; simpa using hx) u hu) h2
        have m1 : (c.args.toList.map a.eval).toArray = c.args.map a.eval := by apply Array.ext'; simp
        generalize c.args.toList.map a.eval = l at e1 m1
        cases e1 with
        | cons e1 e2 =>
          cases e2
          obtain ⟨v', g1, g2⟩ := run_lenV (w := w) (ty := o.type) h e1
          refine ⟨v', ?_, g2⟩
          have ht : c.argTypes = #[t] := by apply Array.ext'; simpa using h3
          simp only [resolve, h1, Sem.run_bind, Sem.run_pure, Result.andThen_ok, invoke, builtin, ht, ← m1]
          rw [g1]; rfl
      · cases h
    · rename_i vs h1 h2
      have e1 := evL_at (ρ := ρ) (P := P) (cv := a.eval) (fun x hx u hu => hat x (by simp only [Call.operands, h1]; simpa using hx) u hu) h2
      have m1 : (c.args.toList.map a.eval).toArray = c.args.map a.eval := by apply Array.ext'; simp
      obtain ⟨v', g1, g2⟩ := run_extremeV (w := w) (ts := c.argTypes) (ty := o.type) h e1
      refine ⟨v', ?_, g2⟩
      simp only [Bool.false_eq_true, if_false] at g1
      simp only [resolve, h1, Sem.run_bind, Sem.run_pure, Result.andThen_ok, invoke, builtin, ← m1]
      rw [g1]; rfl
    · rename_i vs h1 h2
      have e1 := evL_at (ρ := ρ) (P := P) (cv := a.eval) (fun x hx u hu => hat x (by simp only [Call.operands, h1]; simpa using hx) u hu) h2
      have m1 : (c.args.toList.map a.eval).toArray = c.args.map a.eval := by apply Array.ext'; simp
      obtain ⟨v', g1, g2⟩ := run_extremeV (w := w) (ts := c.argTypes) (ty := o.type) h e1
      refine ⟨v', ?_, g2⟩
      simp only [if_true] at g1
      simp only [resolve, h1, Sem.run_bind, Sem.run_pure, Result.andThen_ok, invoke, builtin, ← m1]
      rw [g1]; rfl
    · cases h
  case h_18 => cases h

theorem readV_ok {P : Program} {ev : Operand → Option Value} {o : Oper} {m : Mm} {v : Value} (h : readV P ev m o = some v) : StillOk P o ev m v := by
  unfold readV at h
  split at h
  · rename_i t x ho
    split at h
    · rename_i u h1
      refine StillOk.of_run fun ρ a w hop hr => ?_
      obtain ⟨ad, v', g1, g2, g3⟩ := run_loadVar (w := w) h (hop.at (x := x) (by simp [ho, Op.operands]) h1) hr
      refine ⟨v', ?_, g3⟩
      unfold execOp
      simp only [ho]
      refine run_value ?_
      simp only [Instr.loadAt, g1, Instr.sureAddr, Sem.run_bind, Sem.run_pure, Result.andThen_ok, g2]
    · cases h
  · rename_i t x lo hi mx ho
    split at h
    · rename_i u l hh mm h1 h2 h3 h4
      refine StillOk.of_run fun ρ a w hop hr => ?_
      have hat : ∀ x, x ∈ o.op.operands → ∀ u, ev x = some u → VR P ρ u (a.eval x) := fun x hx u hu => hop.at hx hu
      simp only [ho, Op.operands] at hat
      obtain ⟨v', g1, g2⟩ := run_sliceV (m := m) (w := w) h (hat x (by simp) _ h1) hr (evO_at (fun y hy u hu => hat y (by subst hy; simp) u hu) h2)
        (evO_at (fun y hy u hu => hat y (by subst hy; simp) u hu) h3) (evO_at (fun y hy u hu => hat y (by subst hy; simp) u hu) h4)
      refine ⟨v', ?_, g2⟩
      unfold execOp
      simp only [ho]
      exact run_value g1
    · cases h
  · rename_i src dst x ho
    split at h
    · rename_i u h1
      split at h
      · exact still_markV ho h1 h
      · refine StillOk.of_run fun ρ a w hop hr => ?_
        obtain ⟨v', g1, g2⟩ := run_strV (w := w) h (hop.at (x := x) (by simp [ho, Op.operands]) h1) hr
        refine ⟨v', ?_, g2⟩
        unfold execOp
        simp only [ho]
        exact run_value g1
    · cases h
  · cases h

theorem effV_ok {P : Program} {ev : Operand → Option Value} {M M' : Mem} {o : Oper} {v : Value} (h : effV P ev M o = some (v, M')) : EffOk P o ev M v M' := by
  unfold effV at h
  split at h
  · rename_i t x y ho
    split at h
    · rename_i u u' h1 h2
      split at h
      · rename_i M₁ h3
        cases h
        exact storeE_ok ho h1 h2 h3
      · cases h
    · cases h
  · rename_i c ho
    split at h
    · rename_i p q t tx h1 h2 h3
      split at h
      · rename_i s x h4 h5
        refine appendE_ok (p := p) (q := q) (t := t) (tx := tx) ?_ h4 h5 h
        rw [ho]
        obtain ⟨callee, args, argTypes⟩ := c
        simp only at h1 h2 h3
        subst h1
        have ha : args = #[p, q] := by apply Array.ext'; simpa using h2
        have ht : argTypes = #[t, tx] := by apply Array.ext'; simpa using h3
        rw [ha, ht]
      · cases h
    · cases h
  · cases h

theorem VRs.append {P : Program} {ρ : Emb} {xs xs' ys ys' : Array Value} (h : VRs P ρ xs xs') (h' : VRs P ρ ys ys') : VRs P ρ (xs ++ ys) (xs' ++ ys') := by
  have := (h.vl.append h'.vl).vrs
  have e1 : (xs.toList ++ ys.toList).toArray = xs ++ ys := by apply Array.ext'; simp
  have e2 : (xs'.toList ++ ys'.toList).toArray = xs' ++ ys' := by apply Array.ext'; simp
  rw [e1, e2] at this
  exact this

theorem call_ok {P : Program} {ev : Operand → Option Value} {M M' : Mem} {o : Oper} {v : Value} {f : FuncId} {args : Array Value} (h : callOf P ev o = some (f, args)) (hc : ACall P f args M v M') : EffOk P o ev M v M' := by
  unfold callOf at h
  split at h
  · rename_i c ho
    split at h
    · rename_i g hcal
      split at h
      · rename_i fid first captured vs h1 h2
        cases hcb : callable P fid with
        | false => simp [hcb] at h
        | true =>
          simp only [hcb, cond_true, Option.some.injEq, Prod.mk.injEq] at h
          obtain ⟨rfl, rfl⟩ := h
          intro ρ a w K Q hop hr hf hk
          have hat : ∀ x, x ∈ o.op.operands → ∀ u, ev x = some u → VR P ρ u (a.eval x) := fun x hx u hu => hop.at hx hu
          simp only [ho, Op.operands, Call.operands, hcal] at hat
          have e1 := hat g (by simp) _ h1
          have e2 := (evL_at (ρ := ρ) (P := P) (cv := a.eval) (fun x hx u hu => hat x (by simp; exact .inr (by simpa using hx)) u hu) h2).vrs
          have m1 : (c.args.toList.map a.eval).toArray = c.args.map a.eval := by apply Array.ext'; simp
          rw [m1] at e2
          generalize hg : a.eval g = g' at e1
          cases e1 with
          | func fn hx hy hxx hyy =>
            rename_i first' captured'
            have hargs : VRs P ρ (first ++ vs.toArray ++ captured) (first' ++ c.args.map a.eval ++ captured') := (VRs.append ⟨hx, hxx⟩ e2).append ⟨hy, hyy⟩
            have hrun : (execOp a.eval o).run P w = .ok (.enter fid (first' ++ c.args.map a.eval ++ captured')) w := by
              unfold callable at hcb
              split at hcb
              · rename_i fn' hfn
                simp only [Bool.and_eq_true, Bool.not_eq_true', beq_eq_false_iff_ne, ne_eq] at hcb
                obtain ⟨hb, hnm⟩ := hcb
                have hbn : fn'.body.isNone = false := by cases hh : fn'.body <;> simp_all
                unfold execOp
                simp only [ho, resolve, hcal, hg, Deferred.ofValue, Sem.run_bind, Sem.run_pure, Result.andThen_ok, invoke, callFunc, run_program, hfn]
                rw [if_neg (by simpa using hnm)]
                simp only [hbn, Bool.false_eq_true, if_false, Sem.run_pure]
              · cases hcb
            unfold Oper.wp
            rw [hrun]
            rw [Oper.upon_enter]
            refine (hc ρ w _ hargs hr hf).mono ?_
            rintro e w' ⟨r', ρ', rfl, q1, q2, q3, q4⟩
            · exact hk r' ρ' w' q1 q2 q3 q4
      · cases h
    · cases h
  · cases h
end Go.Proofs.Ythheaehpnleiaaa.AX

/- The layer, seventeenth part: a region's rule for the walk: in the one order, and in any. -/
namespace Go.Proofs.Ythheaehpnleiaaa.AX
open Go
set_option linter.unusedVariables false
set_option linter.unusedSimpArgs false

def dstLt (k : Nat) : Option Nat → Bool
  | none => true
  | some d => decide (d < k)
theorem dstLt_spec {k : Nat} {o : Option Nat} (h : dstLt k o = true) (s : Nat) (hs : o = some s) : s < k := by subst hs; simpa [dstLt] using h

def nAl (P : Program) : List Oper → Nat
  | [] => 0
  | o :: l => match kindOf P o with
    | .alloc => nAl P l + 1
    | _ => nAl P l

/-- operations in the text's order -/
def wpS (P : Program) (ops : Array Oper) (k n0 : Nat) : List Oper → Nat → Env → Mem → (Env → Mem → Prop) → Prop
  | [], _, e, M, K => K e M
  | o :: l, r, e, M, K => bif dstLt k o.dst then match wantA ops e o with
    | none => False
    | some false => match kindOf P o with
      | .alloc => wpS P ops k n0 l (r + 1) (e.put o.dst undef) M K
      | _ => wpS P ops k n0 l r (e.put o.dst undef) M K
    | some true => match kindOf P o with
      | .pure => match pureV P (aev e) o with
        | some v => wpS P ops k n0 l r (e.put o.dst v) M K
        | none => False
      | .read => match readV P (aev e) M.get o with
        | some v => wpS P ops k n0 l r (e.put o.dst v) M K
        | none => False
      | .alloc => match allocA P (aev e) o.op with
        | some (b, mk) => wpS P ops k n0 l (r + 1) (e.put o.dst (mk (n0 + r))) (M.put (n0 + r) b) K
        | none => False
      | .eff => match effV P (aev e) M o with
        | some (v, M') => wpS P ops k n0 l r (e.put o.dst v) M' K
        | none => False
      | .call => match callOf P (aev e) o with
        | some (f, args) => ∃ v M', ACall P f args M v M' ∧ wpS P ops k n0 l r (e.put o.dst v) M' K
        | none => ∃ v M', Known (aev e) o ∧ EffOk P o (aev e) M v M' ∧ wpS P ops k n0 l r (e.put o.dst v) M' K
    else False

theorem kind_eff {P : Program} {o : Oper} : isEff o = (kindOf P o == .eff || kindOf P o == .call) := by
  obtain ⟨dst, op, type, pos, after, guard⟩ := o
  cases op <;> simp only [isEff, kindOf] <;> try rfl
  case convert src dst x => split <;> rfl
  case slice t x lo hi mx => split <;> rfl
  case call c =>
    cases c.callee <;> simp only <;> try rfl
    rename_i b
    cases b <;> rfl
theorem kind_alloc {P : Program} {o : Oper} : isAlloc P o = (kindOf P o == .alloc) := by
  obtain ⟨dst, op, type, pos, after, guard⟩ := o
  cases op <;> simp only [isAlloc, kindOf] <;> try rfl
  case convert src dst x =>
    generalize P.underlying src = a
    generalize P.underlying dst = b
    rcases a with _ | a <;> rcases b with _ | b <;> (try cases a) <;> (try cases b) <;> rfl
  case slice t x lo hi mx => split <;> rfl
  case call c =>
    cases c.callee <;> simp only <;> try rfl
    rename_i b
    cases b <;> rfl

/-- the ids of what is made, in their order -/
def Ids (T : List Tk) (lo hi : Nat) : Prop := ∀ A t C i b, T = A ++ t :: C → t.cls = .alloc i b → lo ≤ i ∧ i < hi ∧ ∀ u b', u ∈ C → u.cls ≠ .alloc i b'
theorem Ids.nil (lo hi : Nat) : Ids [] lo hi := fun A t C i b h => by simp at h
theorem Ids.skip {T : List Tk} {lo hi lo' hi' : Nat} (h : Ids T lo hi) (h1 : lo' ≤ lo) (h2 : hi ≤ hi') {t : Tk} (hc : ∀ i b, t.cls ≠ .alloc i b) : Ids (t :: T) lo' hi' := by
  intro A u C i b hT hu
  cases A with
  | nil => simp at hT; obtain ⟨rfl, rfl⟩ := hT; exact absurd hu (hc i b)
  | cons a A => simp at hT; obtain ⟨rfl, hT⟩ := hT; obtain ⟨q1, q2, q3⟩ := h A u C i b hT hu; exact ⟨by omega, by omega, q3⟩
theorem Ids.alloc {T : List Tk} {n hi : Nat} (h : Ids T (n + 1) hi) (hlt : n < hi) {t : Tk} {b : Blk} (hc : t.cls = .alloc n b) : Ids (t :: T) n hi := by
  intro A u C i c hT hu
  cases A with
  | nil =>
    simp at hT; obtain ⟨rfl, rfl⟩ := hT
    rw [hc] at hu; cases hu
    refine ⟨Nat.le_refl _, hlt, fun x b' hx hcl => ?_⟩
    obtain ⟨A', C', rfl⟩ := List.append_of_mem hx
    have := (h A' x C' _ b' rfl hcl).1
    omega
  | cons a A => simp at hT; obtain ⟨rfl, hT⟩ := hT; obtain ⟨q1, q2, q3⟩ := h A u C i c hT hu; exact ⟨by omega, q2, q3⟩

theorem wpS_trace {P : Program} {ops : Array Oper} {k n0 : Nat} {K : Env → Mem → Prop} : ∀ (l : List Oper) (r : Nat) (e : Env) (M : Mem) (s : Nat), (∀ j o, l[j]? = some o → ops[s + j]? = some o) → wpS P ops k n0 l r e M K →
    ∃ T e' M', T.map (·.i) = List.range' s l.length ∧ Chain T e M e' M' ∧ (∀ t, t ∈ T → t.Ok P ops) ∧ (∀ t, t ∈ T → t.cls = .read → StillOk P t.o (aev t.env) t.pre.get t.v) ∧ (∀ t d, t ∈ T → t.o.dst = some d → d < k) ∧ Ids T (n0 + r) (n0 + r + nAl P l) ∧ K e' M' := by
  intro l
  induction l with
  | nil => intro r e M s _ h; exact ⟨[], e, M, rfl, ⟨rfl, rfl⟩, by simp, by simp, by simp, Ids.nil _ _, h⟩
  | cons o l ih =>
    intro r e M s hops h
    have ho : ops[s]? = some o := hops 0 o rfl
    have hops' : ∀ j o, l[j]? = some o → ops[s + 1 + j]? = some o := fun j o' hj => by have := hops (j + 1) o' (by simpa using hj); rwa [show s + (j + 1) = s + 1 + j by omega] at this
    simp only [wpS] at h
    cases hd : dstLt k o.dst with
    | false => simp [hd] at h
    | true =>
      simp only [hd, cond_true] at h
      have hke := kind_eff (P := P) (o := o)
      have hka := kind_alloc (P := P) (o := o)
      -- one step more
      have more : ∀ (cls : Cls) (v : Value) (M₁ : Mem) (r' : Nat), Tk.Ok P ops ⟨s, o, e, M, cls, v, M₁⟩ → (cls = .read → StillOk P o (aev e) M.get v) → (∀ hi T, Ids T (n0 + r') hi → n0 + r' + nAl P l ≤ hi → hi = n0 + r + nAl P (o :: l) → Ids (⟨s, o, e, M, cls, v, M₁⟩ :: T) (n0 + r) hi) →
          (n0 + r' + nAl P l = n0 + r + nAl P (o :: l) ∨ n0 + r' + nAl P l + 1 = n0 + r + nAl P (o :: l) + 1) → wpS P ops k n0 l r' (e.put o.dst v) M₁ K →
          ∃ T e' M', T.map (·.i) = List.range' s (o :: l).length ∧ Chain T e M e' M' ∧ (∀ t, t ∈ T → t.Ok P ops) ∧ (∀ t, t ∈ T → t.cls = .read → StillOk P t.o (aev t.env) t.pre.get t.v) ∧ (∀ t d, t ∈ T → t.o.dst = some d → d < k) ∧ Ids T (n0 + r) (n0 + r + nAl P (o :: l)) ∧ K e' M' := by
        intro cls v M₁ r' hok hrd hids hr' hw
        obtain ⟨T, e', M', q1, q2, q3, q4, q5, q6, q7⟩ := ih r' _ M₁ (s + 1) hops' hw
        refine ⟨⟨s, o, e, M, cls, v, M₁⟩ :: T, e', M', by simp [q1, List.range'_succ], ⟨rfl, rfl, q2⟩, ?_, ?_, ?_, ?_, q7⟩
        · intro t ht; rcases List.mem_cons.1 ht with rfl | ht; exact hok; exact q3 t ht
        · intro t ht hc; rcases List.mem_cons.1 ht with rfl | ht; exact hrd hc; exact q4 t ht hc
        · intro t d ht hc; rcases List.mem_cons.1 ht with rfl | ht; exact dstLt_spec hd d hc; exact q5 t d ht hc
        · refine hids _ T ?_ ?_ rfl
          · have : n0 + r' + nAl P l = n0 + r + nAl P (o :: l) := by omega
            rw [← this]; exact q6
          · omega
      cases hw : wantA ops e o with
      | none => simp [hw] at h
      | some b =>
        simp only [hw] at h
        cases b with
        | false =>
          simp only at h
          have hok : Tk.Ok P ops ⟨s, o, e, M, .skip, undef, M⟩ := ⟨ho, fun _ => .inl rfl, hw, rfl, rfl⟩
          cases hk : kindOf P o with
          | alloc =>
            simp only [hk] at h
            exact more .skip undef M (r + 1) hok (fun h => by cases h) (fun hi T hI _ _ => hI.skip (by omega) (Nat.le_refl _) (by simp)) (by left; simp only [nAl, hk]; omega) h
          | _ =>
            simp only [hk] at h
            exact more .skip undef M r hok (fun h => by cases h) (fun hi T hI _ _ => hI.skip (by omega) (Nat.le_refl _) (by simp)) (by left; simp only [nAl, hk]) h
        | true =>
          simp only at h
          cases hk : kindOf P o with
          | pure =>
            simp only [hk] at h
            split at h
            · rename_i v hv
              exact more .pure v M r ⟨ho, fun h => (by rw [hke, hk] at h; cases h), hw, pureV_known hv, pureV_ok hv, rfl⟩ (fun h => by cases h) (fun hi T hI _ _ => hI.skip (by omega) (Nat.le_refl _) (by simp)) (by left; simp only [nAl, hk]) h
            · exact h.elim
          | read =>
            simp only [hk] at h
            split at h
            · rename_i v hv
              exact more .read v M r ⟨ho, fun h => (by rw [hke, hk] at h; cases h), hw, readV_known hv, rfl⟩ (fun _ => readV_ok hv) (fun hi T hI _ _ => hI.skip (by omega) (Nat.le_refl _) (by simp)) (by left; simp only [nAl, hk]) h
            · exact h.elim
          | alloc =>
            simp only [hk] at h
            split at h
            · rename_i b mk hv
              exact more (.alloc (n0 + r) b) (mk (n0 + r)) (M.put (n0 + r) b) (r + 1) ⟨ho, fun h => (by rw [hke, hk] at h; cases h), hw, allocA_known hv, by rw [hka, hk]; rfl, ⟨mk, rfl, allocA_ok hv⟩, rfl⟩ (fun h => by cases h)
                (fun hi T hI hle heq => Ids.alloc (by rwa [show n0 + (r + 1) = n0 + r + 1 by omega] at hI) (by simp only [nAl, hk] at heq; omega) rfl) (by left; simp only [nAl, hk]; omega) h
            · exact h.elim
          | eff =>
            simp only [hk] at h
            split at h
            · rename_i v M₁ hv
              exact more .eff v M₁ r ⟨ho, fun _ => .inr rfl, hw, effV_known hv, by rw [hke, hk]; rfl, effV_ok hv⟩ (fun h => by cases h) (fun hi T hI _ _ => hI.skip (by omega) (Nat.le_refl _) (by simp)) (by left; simp only [nAl, hk]) h
            · exact h.elim
          | call =>
            simp only [hk] at h
            split at h
            · rename_i f args hv
              obtain ⟨v, M₁, hc, h⟩ := h
              exact more .eff v M₁ r ⟨ho, fun _ => .inr rfl, hw, callOf_known hv, by rw [hke, hk]; rfl, call_ok hv hc⟩ (fun h => by cases h) (fun hi T hI _ _ => hI.skip (by omega) (Nat.le_refl _) (by simp)) (by left; simp only [nAl, hk]) h
            · obtain ⟨v, M₁, hkn, he, h⟩ := h
              exact more .eff v M₁ r ⟨ho, fun _ => .inr rfl, hw, hkn, by rw [hke, hk]; rfl, he⟩ (fun h => by cases h) (fun hi T hI _ _ => hI.skip (by omega) (Nat.le_refl _) (by simp)) (by left; simp only [nAl, hk]) h

theorem AWP.region {P : Program} {k id : Nat} {ops : Array Oper} {s : St} {Q : Exit → St → Prop}
    (h : wpS P ops k s.mem.next ops.toList 0 s.env (s.mem.bump (nAl P ops.toList)) fun e M => Q .normal ⟨e, M⟩) : AWP P k (.region id ops false) s Q := by
  obtain ⟨T, e', M', q1, q2, q3, q4, q5, q6, q7⟩ := wpS_trace ops.toList 0 s.env _ 0 (fun j o hj => by simpa using hj) h
  refine ⟨.normal, ⟨e', M'⟩, ARun.region_seq (nA := nAl P ops.toList) (T := T) (by rw [q1, List.range_eq_range']; simp) q5 ?_ q3 q2 q4, q7⟩
  intro A t C i b hT hc
  exact q6 A t C i b hT hc
end Go.Proofs.Ythheaehpnleiaaa.AX

/- The layer, eighteenth part: a region's rule for the walk, in any order. -/
namespace Go.Proofs.Ythheaehpnleiaaa.AX
open Go
set_option linter.unusedVariables false
set_option linter.unusedSimpArgs false

def inP (U : List (Nat × Nat)) (i j : Nat) : Bool := U.any fun p => Nat.beq p.1 i && Nat.beq p.2 j
/-- a memory, with what an operation surely finds made -/
def withA (A : List (Nat × Nat)) : List (Nat × Nat × Blk) → Nat → Mm → Mm
  | [], _, m => m
  | (j, id, b) :: al, i, m => bif inP A j i then updM (withA A al i m) id b else withA A al i m
def allLog (U : List (Nat × Nat)) (i : Nat) (f : Mem → Prop) : List (Nat × Mem) → Prop
  | [] => True
  | (j, B) :: l => (inP U i j = true → f B) ∧ allLog U i f l
def allRl (P : Program) (U : List (Nat × Nat)) (j : Nat) (m : Mm) : List (Nat × Oper × Env × Value) → Prop
  | [] => True
  | (i, o, e, v) :: l => (inP U i j = true → readV P (aev e) m o = some v) ∧ allRl P U j m l

/-- operations in any order -/
def wpD (P : Program) (ops : Array Oper) (k n0 : Nat) (A U : List (Nat × Nat)) : List (Nat × Oper) → Nat → Env → Mem → Mem → List (Nat × Nat × Blk) → List (Nat × Mem) → List (Nat × Oper × Env × Value) → (Env → Mem → Prop) → Prop
  | [], _, e, M, _, _, _, _, K => K e M
  | (i, o) :: l, r, e, M, B, al, log, rl, K => match wantA ops e o with
    | none => False
    | some false => match kindOf P o with
      | .alloc => wpD P ops k n0 A U l (r + 1) (e.put o.dst undef) M B al log rl K
      | .eff => allRl P U i M.get rl ∧ wpD P ops k n0 A U l r (e.put o.dst undef) M M [] ((i, B) :: log) rl K
      | .call => allRl P U i M.get rl ∧ wpD P ops k n0 A U l r (e.put o.dst undef) M M [] ((i, B) :: log) rl K
      | _ => wpD P ops k n0 A U l r (e.put o.dst undef) M B al log rl K
    | some true => match kindOf P o with
      | .pure => match pureV P (aev e) o with
        | some v => wpD P ops k n0 A U l r (e.put o.dst v) M B al log rl K
        | none => False
      | .read => match readV P (aev e) (withA A al i B.get) o with
        | some v => allLog U i (fun B' => readV P (aev e) (withA A al i B'.get) o = some v) log ∧ wpD P ops k n0 A U l r (e.put o.dst v) M B al log ((i, o, e, v) :: rl) K
        | none => False
      | .alloc => match allocA P (aev e) o.op with
        | some (b, mk) => wpD P ops k n0 A U l (r + 1) (e.put o.dst (mk (n0 + r))) (M.put (n0 + r) b) B ((i, n0 + r, b) :: al) log rl K
        | none => False
      | .eff => match effV P (aev e) M o with
        | some (v, M') => allRl P U i M'.get rl ∧ wpD P ops k n0 A U l r (e.put o.dst v) M' M' [] ((i, B) :: log) rl K
        | none => False
      | .call => match callOf P (aev e) o with
        | some (f, args) => ∃ v M', ACall P f args M v M' ∧ allRl P U i M'.get rl ∧ wpD P ops k n0 A U l r (e.put o.dst v) M' M' [] ((i, B) :: log) rl K
        | none => ∃ v M', Known (aev e) o ∧ EffOk P o (aev e) M v M' ∧ allRl P U i M'.get rl ∧ wpD P ops k n0 A U l r (e.put o.dst v) M' M' [] ((i, B) :: log) rl K

def rlOf (t : Tk) : Nat × Oper × Env × Value := (t.i, t.o, t.env, t.v)

/-- what holds of the reads of a row of steps -/
def RdOk (P : Program) (A U : List (Nat × Nat)) : List Tk → Mem → List (Nat × Nat × Blk) → List (Nat × Mem) → List Tk → Prop
  | [], _, _, _, _ => True
  | t :: T, B, al, log, rl =>
    (t.cls = .read → StillOk P t.o (aev t.env) (withA A al t.i B.get) t.v ∧ ∀ x, x ∈ log → inP U t.i x.1 = true → StillOk P t.o (aev t.env) (withA A al t.i x.2.get) t.v) ∧
    (isEff t.o = true → ∀ u, u ∈ rl → inP U u.i t.i = true → StillOk P u.o (aev u.env) t.post.get u.v) ∧
    RdOk P A U T (if isEff t.o then t.post else B) (if isEff t.o then [] else match t.cls with | .alloc id b => (t.i, id, b) :: al | _ => al) (if isEff t.o then (t.i, B) :: log else log) (match t.cls with | .read => t :: rl | _ => rl)

theorem allLog_spec {U : List (Nat × Nat)} {i : Nat} {f : Mem → Prop} {l : List (Nat × Mem)} (h : allLog U i f l) (x : Nat × Mem) (hx : x ∈ l) (hu : inP U i x.1 = true) : f x.2 := by
  induction l with
  | nil => cases hx
  | cons y l ih =>
    obtain ⟨j, B⟩ := y
    rcases List.mem_cons.1 hx with rfl | hx
    · exact h.1 hu
    · exact ih h.2 hx
theorem allRl_spec {P : Program} {U : List (Nat × Nat)} {j : Nat} {m : Mm} {l : List Tk} (h : allRl P U j m (l.map rlOf)) (u : Tk) (hu : u ∈ l) (hp : inP U u.i j = true) : readV P (aev u.env) m u.o = some u.v := by
  induction l with
  | nil => cases hu
  | cons y l ih =>
    rcases List.mem_cons.1 hu with rfl | hu
    · exact h.1 hp
    · exact ih h.2 hu

theorem wpD_trace {P : Program} {ops : Array Oper} {k n0 : Nat} {A U : List (Nat × Nat)} {K : Env → Mem → Prop} : ∀ (l : List (Nat × Oper)) (r : Nat) (e : Env) (M B : Mem) (al : List (Nat × Nat × Blk)) (log : List (Nat × Mem)) (rl : List Tk),
    (∀ p, p ∈ l → ops[p.1]? = some p.2) → wpD P ops k n0 A U l r e M B al log (rl.map rlOf) K →
    ∃ T e' M', T.map (·.i) = l.map (·.1) ∧ Chain T e M e' M' ∧ (∀ t, t ∈ T → t.Ok P ops) ∧ RdOk P A U T B al log rl ∧ Ids T (n0 + r) (n0 + r + nAl P (l.map (·.2))) ∧ (∀ t, t ∈ T → t.cls = .read → kindOf P t.o = .read) ∧ K e' M' := by
  intro l
  induction l with
  | nil => intro r e M B al log rl _ h; exact ⟨[], e, M, rfl, ⟨rfl, rfl⟩, by simp, trivial, Ids.nil _ _, by simp, h⟩
  | cons p l ih =>
    intro r e M B al log rl hops h
    obtain ⟨i, o⟩ := p
    have ho : ops[i]? = some o := hops (i, o) (by simp)
    have hops' : ∀ p, p ∈ l → ops[p.1]? = some p.2 := fun p hp => hops p (by simp [hp])
    simp only [wpD] at h
    have hke := kind_eff (P := P) (o := o)
    have hka := kind_alloc (P := P) (o := o)
    have more : ∀ (cls : Cls) (v : Value) (M₁ : Mem) (r' : Nat) (B' : Mem) (al' : List (Nat × Nat × Blk)) (log' : List (Nat × Mem)) (rl' : List Tk), Tk.Ok P ops ⟨i, o, e, M, cls, v, M₁⟩ →
        (cls = .read → kindOf P o = .read) → (cls = .read → StillOk P o (aev e) (withA A al i B.get) v ∧ ∀ x, x ∈ log → inP U i x.1 = true → StillOk P o (aev e) (withA A al i x.2.get) v) →
        (isEff o = true → ∀ u, u ∈ rl → inP U u.i i = true → StillOk P u.o (aev u.env) M₁.get u.v) →
        B' = (if isEff o then M₁ else B) → al' = (if isEff o then [] else match cls with | .alloc id b => (i, id, b) :: al | _ => al) → log' = (if isEff o then (i, B) :: log else log) → rl' = (match cls with | .read => ⟨i, o, e, M, cls, v, M₁⟩ :: rl | _ => rl) →
        (∀ hi T, Ids T (n0 + r') hi → n0 + r' + nAl P (l.map (·.2)) ≤ hi → hi = n0 + r + nAl P (o :: l.map (·.2)) → Ids (⟨i, o, e, M, cls, v, M₁⟩ :: T) (n0 + r) hi) → n0 + r' + nAl P (l.map (·.2)) = n0 + r + nAl P (o :: l.map (·.2)) →
        wpD P ops k n0 A U l r' (e.put o.dst v) M₁ B' al' log' (rl'.map rlOf) K →
        ∃ T e' M', T.map (·.i) = ((i, o) :: l).map (·.1) ∧ Chain T e M e' M' ∧ (∀ t, t ∈ T → t.Ok P ops) ∧ RdOk P A U T B al log rl ∧ Ids T (n0 + r) (n0 + r + nAl P (((i, o) :: l).map (·.2))) ∧ (∀ t, t ∈ T → t.cls = .read → kindOf P t.o = .read) ∧ K e' M' := by
      intro cls v M₁ r' B' al' log' rl' hok hkr hrd hef hB hal hlog hrl hids hr' hw
      obtain ⟨T, e', M', q1, q2, q3, q4, q5, q7, q6⟩ := ih r' _ M₁ B' al' log' rl' hops' hw
      subst hB hal hlog hrl
      refine ⟨⟨i, o, e, M, cls, v, M₁⟩ :: T, e', M', by simp [q1], ⟨rfl, rfl, q2⟩, ?_, ⟨hrd, hef, q4⟩, ?_, ?_, q6⟩
      · intro t ht; rcases List.mem_cons.1 ht with rfl | ht; exact hok; exact q3 t ht
      · refine hids _ T ?_ ?_ rfl
        · show Ids T (n0 + r') (n0 + r + nAl P (o :: l.map (·.2)))
          rw [← hr']; exact q5
        · show n0 + r' + nAl P (l.map (·.2)) ≤ n0 + r + nAl P (o :: l.map (·.2))
          omega
      · intro t ht hc; rcases List.mem_cons.1 ht with rfl | ht; exact hkr hc; exact q7 t ht hc
    cases hw : wantA ops e o with
    | none => simp [hw] at h
    | some b =>
      simp only [hw] at h
      cases b with
      | false =>
        simp only at h
        have hok : Tk.Ok P ops ⟨i, o, e, M, .skip, undef, M⟩ := ⟨ho, fun _ => .inl rfl, hw, rfl, rfl⟩
        have hskip : ∀ r', r ≤ r' → ∀ hi T, Ids T (n0 + r') hi → n0 + r' + nAl P (l.map (·.2)) ≤ hi → hi = n0 + r + nAl P (o :: l.map (·.2)) → Ids (⟨i, o, e, M, .skip, undef, M⟩ :: T) (n0 + r) hi := fun r' hr' hi T hI _ _ => hI.skip (by omega) (Nat.le_refl _) (by simp)
        cases hk : kindOf P o with
        | alloc =>
          have hE : isEff o = false := by rw [hke, hk]; rfl
          simp only [hk] at h
          exact more .skip undef M (r + 1) B al log rl hok (fun h => by cases h) (fun h => by cases h) (fun h => by rw [hE] at h; cases h) (by simp [hE]) (by simp [hE]) (by simp [hE]) rfl (hskip (r + 1) (by omega)) (by simp only [nAl, hk]; omega) h
        | pure =>
          have hE : isEff o = false := by rw [hke, hk]; rfl
          simp only [hk] at h
          exact more .skip undef M r B al log rl hok (fun h => by cases h) (fun h => by cases h) (fun h => by rw [hE] at h; cases h) (by simp [hE]) (by simp [hE]) (by simp [hE]) rfl (hskip r (Nat.le_refl _)) (by simp only [nAl, hk]) h
        | read =>
          have hE : isEff o = false := by rw [hke, hk]; rfl
          simp only [hk] at h
          exact more .skip undef M r B al log rl hok (fun h => by cases h) (fun h => by cases h) (fun h => by rw [hE] at h; cases h) (by simp [hE]) (by simp [hE]) (by simp [hE]) rfl (hskip r (Nat.le_refl _)) (by simp only [nAl, hk]) h
        | eff =>
          have hE : isEff o = true := by rw [hke, hk]; rfl
          simp only [hk] at h
          exact more .skip undef M r M [] ((i, B) :: log) rl hok (fun h => by cases h) (fun h => by cases h) (fun _ u hu hp => readV_ok (allRl_spec h.1 u hu hp)) (by simp [hE]) (by simp [hE]) (by simp [hE]) rfl (hskip r (Nat.le_refl _)) (by simp only [nAl, hk]) h.2
        | call =>
          have hE : isEff o = true := by rw [hke, hk]; rfl
          simp only [hk] at h
          exact more .skip undef M r M [] ((i, B) :: log) rl hok (fun h => by cases h) (fun h => by cases h) (fun _ u hu hp => readV_ok (allRl_spec h.1 u hu hp)) (by simp [hE]) (by simp [hE]) (by simp [hE]) rfl (hskip r (Nat.le_refl _)) (by simp only [nAl, hk]) h.2
      | true =>
        simp only at h
        cases hk : kindOf P o with
        | pure =>
          have hE : isEff o = false := by rw [hke, hk]; rfl
          simp only [hk] at h
          split at h
          · rename_i v hv
            exact more .pure v M r B al log rl ⟨ho, fun h => (by rw [hE] at h; cases h), hw, pureV_known hv, pureV_ok hv, rfl⟩ (fun h => by cases h) (fun h => by cases h) (fun h => by rw [hE] at h; cases h) (by simp [hE]) (by simp [hE]) (by simp [hE]) rfl
              (fun hi T hI _ _ => hI.skip (by omega) (Nat.le_refl _) (by simp)) (by simp only [nAl, hk]) h
          · exact h.elim
        | read =>
          have hE : isEff o = false := by rw [hke, hk]; rfl
          simp only [hk] at h
          split at h
          · rename_i v hv
            exact more .read v M r B al log (⟨i, o, e, M, .read, v, M⟩ :: rl) ⟨ho, fun h => (by rw [hE] at h; cases h), hw, readV_known hv, rfl⟩ (fun _ => hk) (fun _ => ⟨readV_ok hv, fun x hx hu => readV_ok (allLog_spec h.1 x hx hu)⟩) (fun h => by rw [hE] at h; cases h)
              (by simp [hE]) (by simp [hE]) (by simp [hE]) rfl (fun hi T hI _ _ => hI.skip (by omega) (Nat.le_refl _) (by simp)) (by simp only [nAl, hk]) h.2
          · exact h.elim
        | alloc =>
          have hE : isEff o = false := by rw [hke, hk]; rfl
          simp only [hk] at h
          split at h
          · rename_i b mk hv
            exact more (.alloc (n0 + r) b) (mk (n0 + r)) (M.put (n0 + r) b) (r + 1) B ((i, n0 + r, b) :: al) log rl ⟨ho, fun h => (by rw [hE] at h; cases h), hw, allocA_known hv, by rw [hka, hk]; rfl, ⟨mk, rfl, allocA_ok hv⟩, rfl⟩ (fun h => by cases h) (fun h => by cases h) (fun h => by rw [hE] at h; cases h)
              (by simp [hE]) (by simp [hE]) (by simp [hE]) rfl (fun hi T hI hle heq => Ids.alloc (by rwa [show n0 + (r + 1) = n0 + r + 1 by omega] at hI) (by simp only [nAl, hk] at heq; omega) rfl) (by simp only [nAl, hk]; omega) h
          · exact h.elim
        | eff =>
          have hE : isEff o = true := by rw [hke, hk]; rfl
          simp only [hk] at h
          split at h
          · rename_i v M₁ hv
            exact more .eff v M₁ r M₁ [] ((i, B) :: log) rl ⟨ho, fun _ => .inr rfl, hw, effV_known hv, hE, effV_ok hv⟩ (fun h => by cases h) (fun h => by cases h) (fun _ u hu hp => readV_ok (allRl_spec h.1 u hu hp)) (by simp [hE]) (by simp [hE]) (by simp [hE]) rfl
              (fun hi T hI _ _ => hI.skip (by omega) (Nat.le_refl _) (by simp)) (by simp only [nAl, hk]) h.2
          · exact h.elim
        | call =>
          have hE : isEff o = true := by rw [hke, hk]; rfl
          simp only [hk] at h
          split at h
          · rename_i f args hv
            obtain ⟨v, M₁, hc, h1, h⟩ := h
            exact more .eff v M₁ r M₁ [] ((i, B) :: log) rl ⟨ho, fun _ => .inr rfl, hw, callOf_known hv, hE, call_ok hv hc⟩ (fun h => by cases h) (fun h => by cases h) (fun _ u hu hp => readV_ok (allRl_spec h1 u hu hp)) (by simp [hE]) (by simp [hE]) (by simp [hE]) rfl
              (fun hi T hI _ _ => hI.skip (by omega) (Nat.le_refl _) (by simp)) (by simp only [nAl, hk]) h
          · obtain ⟨v, M₁, hkn, he, h1, h⟩ := h
            exact more .eff v M₁ r M₁ [] ((i, B) :: log) rl ⟨ho, fun _ => .inr rfl, hw, hkn, hE, he⟩ (fun h => by cases h) (fun h => by cases h) (fun _ u hu hp => readV_ok (allRl_spec h1 u hu hp)) (by simp [hE]) (by simp [hE]) (by simp [hE]) rfl
              (fun hi T hI _ _ => hI.skip (by omega) (Nat.le_refl _) (by simp)) (by simp only [nAl, hk]) h

/-! ### what a region's form tells -/
def opAt (ops : Array Oper) (i : Nat) : Oper := (ops[i]?).getD default
def directs (o : Oper) : List Nat := (o.after.toList.filter (Region.binds .any)).map (·.on)
def amOf (msk : List Nat) (i j : Nat) : Bool := (msk.getD j 0).testBit i
def okMask (ops : Array Oper) (msk : List Nat) : Bool := (List.range ops.size).all fun j => (List.range ops.size).all fun i => !amOf msk i j || (directs (opAt ops j)).any fun d => Nat.beq d i || (decide (d < j) && amOf msk i d)
def dstsDiffer (a b : Oper) : Bool := match a.dst, b.dst with
  | some s, some t => !(Nat.beq s t)
  | _, _ => true
def lookOk (ops : Array Oper) (msk : List Nat) (u t : Nat) : Bool := match (opAt ops u).dst with
  | some s => !((opAt ops t).looksAt ops).contains s || amOf msk u t || amOf msk t u
  | none => true
def isRd (P : Program) (o : Oper) : Bool := match kindOf P o with
  | .read => true
  | _ => false
def okPair (P : Program) (ops : Array Oper) (msk : List Nat) (U : List (Nat × Nat)) (u t : Nat) : Bool :=
  !(Nat.beq u t) && dstsDiffer (opAt ops u) (opAt ops t) && (!(isEff (opAt ops t)) || !(isEff (opAt ops u) || isAlloc P (opAt ops u)) || amOf msk u t) && lookOk ops msk u t && lookOk ops msk t u &&
  (!(isRd P (opAt ops u) && isEff (opAt ops t)) || inP U u t || amOf msk u t) && (!(isEff (opAt ops u) && isRd P (opAt ops t)) || inP U t u || amOf msk u t)
def okOrd (P : Program) (ops : Array Oper) (msk : List Nat) (U : List (Nat × Nat)) : List Nat → Bool
  | [] => true
  | u :: l => l.all (okPair P ops msk U u) && okOrd P ops msk U l
def okTopo (ops : Array Oper) : List Nat → List Nat → Bool
  | _, [] => true
  | seen, u :: l => (directs (opAt ops u)).all (fun d => seen.contains d) && okTopo ops (u :: seen) l
def okReg (P : Program) (k : Nat) (ops : Array Oper) (ord msk : List Nat) (A U : List (Nat × Nat)) : Bool :=
  Nat.beq ord.length ops.size && (List.range ops.size).all (fun i => ord.contains i) && ord.all (fun i => decide (i < ops.size)) && okTopo ops [] ord && okOrd P ops msk U ord && okMask ops msk && A.all (fun p => amOf msk p.1 p.2) && ord.all (fun i => dstLt k (opAt ops i).dst)

theorem okMask_spec {ops : Array Oper} {msk : List Nat} (h : okMask ops msk = true) : ∀ j, j < ops.size → ∀ i, i < ops.size → amOf msk i j = true → Anc ops i j := by
  intro j
  induction j using Nat.strongRecOn with
  | _ j ih =>
    intro hj i hi ham
    unfold okMask at h
    rw [List.all_eq_true] at h
    have h1 := h j (List.mem_range.2 hj)
    rw [List.all_eq_true] at h1
    have h2 := h1 i (List.mem_range.2 hi)
    rw [ham] at h2
    simp only [Bool.not_true, Bool.false_or, List.any_eq_true] at h2
    obtain ⟨d, hd, hc⟩ := h2
    have hdir : Direct ops d j := by
      unfold directs at hd
      rw [List.mem_map] at hd
      obtain ⟨e, he, rfl⟩ := hd
      rw [List.mem_filter] at he
      refine ⟨opAt ops j, by simp [opAt, hj], e, by simpa using he.1, he.2, rfl⟩
    rw [Bool.or_eq_true] at hc
    rcases hc with hc | hc
    · rw [beq_iff] at hc
      have : d = i := by simpa using hc
      exact .one (this ▸ hdir)
    · rw [Bool.and_eq_true] at hc
      have hdj : d < j := by simpa using hc.1
      exact .more (ih d hdj (by omega) i hi hc.2) hdir

theorem okOrd_spec {P : Program} {ops : Array Oper} {msk : List Nat} {U : List (Nat × Nat)} : ∀ {l : List Nat}, okOrd P ops msk U l = true → ∀ A t C, l = A ++ t :: C → ∀ u, u ∈ A → okPair P ops msk U u t = true := by
  intro l
  induction l with
  | nil => intro _ A t C h; simp at h
  | cons x l ih =>
    intro h A t C hl u hu
    simp only [okOrd, Bool.and_eq_true] at h
    cases A with
    | nil => cases hu
    | cons a A =>
      simp at hl
      obtain ⟨rfl, rfl⟩ := hl
      rcases List.mem_cons.1 hu with rfl | hu
      · exact List.all_eq_true.1 h.1 t (by simp)
      · exact ih h.2 A t C rfl u hu
theorem okTopo_spec {ops : Array Oper} : ∀ {l seen : List Nat}, okTopo ops seen l = true → ∀ A t C, l = A ++ t :: C → ∀ d, d ∈ directs (opAt ops t) → d ∈ seen ∨ d ∈ A := by
  intro l
  induction l with
  | nil => intro seen _ A t C h; simp at h
  | cons x l ih =>
    intro seen h A t C hl d hd
    simp only [okTopo, Bool.and_eq_true] at h
    cases A with
    | nil =>
      simp at hl
      obtain ⟨rfl, rfl⟩ := hl
      exact .inl (by simpa using List.all_eq_true.1 h.1 d hd)
    | cons a A =>
      simp at hl
      obtain ⟨rfl, rfl⟩ := hl
      rcases ih h.2 A t C rfl d hd with h' | h'
      · rcases List.mem_cons.1 h' with rfl | h'
        · exact .inr (by simp)
        · exact .inl h'
      · exact .inr (by simp [h'])
end Go.Proofs.Ythheaehpnleiaaa.AX

/- The layer, nineteenth part: a region's rule for the walk, in any order: the proof. -/
namespace Go.Proofs.Ythheaehpnleiaaa.AX
open Go
set_option linter.unusedVariables false
set_option linter.unusedSimpArgs false

def stB (B : Mem) : List Tk → Mem
  | [] => B
  | t :: T => stB (if isEff t.o then t.post else B) T
def stAl (al : List (Nat × Nat × Blk)) : List Tk → List (Nat × Nat × Blk)
  | [] => al
  | t :: T => stAl (if isEff t.o then [] else match t.cls with | .alloc id b => (t.i, id, b) :: al | _ => al) T
def stLog (B : Mem) (log : List (Nat × Mem)) : List Tk → List (Nat × Mem)
  | [] => log
  | t :: T => stLog (if isEff t.o then t.post else B) (if isEff t.o then (t.i, B) :: log else log) T
def stRl (rl : List Tk) : List Tk → List Tk
  | [] => rl
  | t :: T => stRl (match t.cls with | .read => t :: rl | _ => rl) T

theorem RdOk.split {P : Program} {A U : List (Nat × Nat)} : ∀ {T1 T2 : List Tk} {B : Mem} {al : List (Nat × Nat × Blk)} {log : List (Nat × Mem)} {rl : List Tk}, RdOk P A U (T1 ++ T2) B al log rl → RdOk P A U T2 (stB B T1) (stAl al T1) (stLog B log T1) (stRl rl T1)
  | [], _, _, _, _, _, h => h
  | t :: T1, T2, B, al, log, rl, h => RdOk.split (T1 := T1) h.2.2
theorem stB_append (T1 T2 : List Tk) : ∀ B, stB B (T1 ++ T2) = stB (stB B T1) T2 := by
  induction T1 with
  | nil => intro B; rfl
  | cons t T1 ih => intro B; exact ih _
theorem stB_noeff {T : List Tk} (h : ∀ t, t ∈ T → isEff t.o = false) : ∀ B, stB B T = B := by
  induction T with
  | nil => intro B; rfl
  | cons t T ih =>
    intro B
    simp only [stB, h t (by simp), Bool.false_eq_true, if_false]
    exact ih (fun u hu => h u (by simp [hu])) B
theorem stB_last {X : List Tk} (h : lastEff X) (B : Mem) : stB B X = bound B X := by
  rcases h with rfl | ⟨A, t, rfl, hE⟩
  · rfl
  · rw [bound_snoc, stB_append]
    simp [stB, hE]
theorem stAl_append (T1 T2 : List Tk) : ∀ al, stAl al (T1 ++ T2) = stAl (stAl al T1) T2 := by
  induction T1 with
  | nil => intro al; rfl
  | cons t T1 ih => intro al; exact ih _
theorem stAl_sub {T : List Tk} : ∀ {al : List (Nat × Nat × Blk)} {x : Nat × Nat × Blk}, x ∈ stAl al T → x ∈ al ∨ ∃ t, t ∈ T ∧ t.cls = .alloc x.2.1 x.2.2 ∧ t.i = x.1 := by
  induction T with
  | nil => intro al x h; exact .inl h
  | cons t T ih =>
    intro al x h
    rcases ih h with h | ⟨u, hu, hc⟩
    · cases hE : isEff t.o with
      | true => simp [hE] at h
      | false =>
        simp only [hE, Bool.false_eq_true, if_false] at h
        cases hc : t.cls with
        | alloc id b =>
          simp only [hc] at h
          rcases List.mem_cons.1 h with rfl | h
          · exact .inr ⟨t, by simp, hc, rfl⟩
          · exact .inl h
        | skip => simp only [hc] at h; exact .inl h
        | pure => simp only [hc] at h; exact .inl h
        | read => simp only [hc] at h; exact .inl h
        | eff => simp only [hc] at h; exact .inl h
    · exact .inr ⟨u, by simp [hu], hc⟩
theorem stLog_mem {T : List Tk} : ∀ {B : Mem} {log : List (Nat × Mem)} {x : Nat × Mem}, x ∈ log → x ∈ stLog B log T := by
  induction T with
  | nil => intro B log x h; exact h
  | cons t T ih =>
    intro B log x h
    refine ih ?_
    cases isEff t.o <;> simp [h]
theorem stLog_append (T1 T2 : List Tk) : ∀ B log, stLog B log (T1 ++ T2) = stLog (stB B T1) (stLog B log T1) T2 := by
  induction T1 with
  | nil => intro B log; rfl
  | cons t T1 ih => intro B log; exact ih _ _
theorem stLog_at {Z1 Z2 : List Tk} {e : Tk} (h : ∀ t, t ∈ Z1 → isEff t.o = false) (hE : isEff e.o = true) (B : Mem) (log : List (Nat × Mem)) : (e.i, B) ∈ stLog B log (Z1 ++ e :: Z2) := by
  rw [stLog_append, stB_noeff h]
  show _ ∈ stLog _ (if isEff e.o then (e.i, B) :: _ else _) Z2
  simp only [hE, if_true]
  exact stLog_mem (by simp)
theorem stRl_mem {T : List Tk} : ∀ {rl : List Tk} {x : Tk}, x ∈ rl → x ∈ stRl rl T := by
  induction T with
  | nil => intro rl x h; exact h
  | cons t T ih =>
    intro rl x h
    refine ih ?_
    cases t.cls <;> simp [h]
theorem stRl_at {T : List Tk} {t : Tk} (h : t.cls = .read) (rl : List Tk) : t ∈ stRl rl (t :: T) := by
  show t ∈ stRl (match t.cls with | .read => t :: rl | _ => rl) T
  rw [h]
  exact stRl_mem (by simp)
theorem withA_within {A : List (Nat × Nat)} {al : List (Nat × Nat × Blk)} {i : Nat} {m : Mm} : ∀ {x : Nat} {b : Blk}, withA A al i m x = some b → m x = some b ∨ ∃ j, (j, x, b) ∈ al ∧ inP A j i = true := by
  induction al with
  | nil => intro x b h; exact .inl h
  | cons p al ih =>
    intro x b h
    obtain ⟨j, id, c⟩ := p
    simp only [withA] at h
    cases hp : inP A j i with
    | true =>
      simp only [hp, cond_true, updM] at h
      by_cases hx : x = id
      · subst hx; simp at h; subst h; exact .inr ⟨j, by simp, hp⟩
      · simp only [hx, if_false] at h; exact (ih h).imp (fun h => h) fun ⟨j', h1, h2⟩ => ⟨j', by simp [h1], h2⟩
    | false => simp only [hp, cond_false] at h; exact (ih h).imp (fun h => h) fun ⟨j', h1, h2⟩ => ⟨j', by simp [h1], h2⟩
theorem inP_mem {U : List (Nat × Nat)} {i j : Nat} (h : inP U i j = true) : (i, j) ∈ U := by
  unfold inP at h
  rw [List.any_eq_true] at h
  obtain ⟨p, hp, hc⟩ := h
  rw [Bool.and_eq_true, beq_iff, beq_iff] at hc
  have h1 : p.1 = i := by simpa using hc.1
  have h2 : p.2 = j := by simpa using hc.2
  rw [← h1, ← h2]; exact hp

theorem reads_of {P : Program} {k : Nat} {ops : Array Oper} {A U : List (Nat × Nat)} {T : List Tk} {M0 : Mem} {am : Nat → Nat → Bool} (hst : Static P k ops T) (ham : ∀ u t, u ∈ T → t ∈ T → am u.i t.i = true → Anc ops u.i t.i) (hA : ∀ i j, inP A i j = true → am i j = true)
    (hU : ∀ X t C, T = X ++ t :: C → ∀ u, u ∈ X → (t.cls = .read → isEff u.o = true → inP U t.i u.i = true ∨ am u.i t.i = true) ∧ (u.cls = .read → isEff t.o = true → inP U u.i t.i = true ∨ am u.i t.i = true))
    (hne : ∀ t, t ∈ T → t.cls = .read → isEff t.o = false) (hrd : RdOk P A U T M0 [] [] []) : Reads P M0 T am := by
  intro t ht hc X Y hXY hlast hx hy
  rcases (show t ∈ X ++ Y by rw [← hXY]; exact ht) |> List.mem_append.1 with htX | htY
  · -- the read stands ahead of the bound
    obtain ⟨X1, X2, hX⟩ := List.append_of_mem htX
    rcases hlast with h0 | ⟨A', e, hAe, hE⟩
    · rw [h0] at htX; cases htX
    · -- X2 ends with e
      have hte : t ≠ e := by rintro rfl; rw [hne t ht hc] at hE; cases hE
      obtain ⟨X3, hX3⟩ : ∃ X3, X2 = X3 ++ [e] := by
        have h1 : X1 ++ t :: X2 = A' ++ [e] := by rw [← hX, hAe]
        rcases List.eq_nil_or_concat X2 with h2 | ⟨X3, z, h2⟩
        · subst h2
          have := congrArg List.getLast? h1
          simp at this
          exact absurd this hte
        · have h2' : X2 = X3 ++ [z] := by simpa using h2
          refine ⟨X3, ?_⟩
          rw [h2'] at h1 ⊢
          have h3 : (X1 ++ t :: X3) ++ [z] = A' ++ [e] := by simpa using h1
          rw [(List.append_inj' h3 rfl).2]
      have hTe : T = (X1 ++ t :: X3) ++ e :: Y := by rw [hXY, hX, hX3]; simp
      have hbound : bound M0 X = e.post := by rw [hAe, bound_snoc]
      have hr2 : RdOk P A U ((X1 ++ t :: X3) ++ e :: Y) M0 [] [] [] := hTe ▸ hrd
      have hr3 := hr2.split.2.1 hE t (by
        have : stRl [] (X1 ++ t :: X3) = stRl (stRl [] X1) (t :: X3) := by
          clear hr2 hrd hTe hX
          have : ∀ (T1 T2 : List Tk) rl, stRl rl (T1 ++ T2) = stRl (stRl rl T1) T2 := by
            intro T1 T2
            induction T1 with
            | nil => intro rl; rfl
            | cons t T1 ih => intro rl; exact ih _
          exact this _ _ _
        rw [this]; exact stRl_at hc _) (by
        rcases (hU _ e Y hTe t (by simp)).2 hc hE with h | h
        · exact h
        · exact absurd (hx e (by rw [hAe]; simp) hE) (by rw [h]; simp))
      refine ⟨e.post.get, fun i b h => .inl (by rw [hbound]; exact h), hr3⟩
  · obtain ⟨Z, T2, hY⟩ := List.append_of_mem htY
    have hTt : T = (X ++ Z) ++ t :: T2 := by rw [hXY, hY]; simp
    have hr2 : RdOk P A U ((X ++ Z) ++ t :: T2) M0 [] [] [] := hTt ▸ hrd
    obtain ⟨f1, f2⟩ := hr2.split.1 hc
    have hB : stB M0 X = bound M0 X := stB_last hlast M0
    by_cases hz : ∃ e, e ∈ Z ∧ isEff e.o = true
    · obtain ⟨Z1, e, Z2, hZ, hE, hZ1⟩ := first_of (T := Z) (p := fun t => isEff t.o = true) hz
      have hZ1' : ∀ u, u ∈ Z1 → isEff u.o = false := fun u hu => by simpa using hZ1 u hu
      have hlog : (e.i, bound M0 X) ∈ stLog M0 [] (X ++ Z) := by
        rw [stLog_append, hB, hZ]
        exact stLog_at hZ1' hE _ _
      have heX : e ∈ X ++ Z := by rw [hZ]; simp
      have hu : inP U t.i e.i = true := by
        rcases (hU _ t T2 hTt e heX).1 hc hE with h | h
        · exact h
        · exact absurd (hy e (by rw [hY, hZ]; simp) hE) (by rw [h]; simp)
      refine ⟨_, fun i b h => ?_, f2 _ hlog hu⟩
      rcases withA_within h with h | ⟨j, hj, hp⟩
      · exact .inl h
      · refine .inr ?_
        rw [hZ, ← List.append_assoc, stAl_append] at hj
        have hj' : (j, i, b) ∈ stAl [] Z2 := by
          have : stAl (stAl [] (X ++ Z1)) (e :: Z2) = stAl [] Z2 := by simp [stAl, hE]
          rw [this] at hj; exact hj
        rcases stAl_sub hj' with h | ⟨u, hu1, hu2, hu3⟩
        · cases h
        · exact ⟨u, by rw [hY, hZ]; simp [hu1], hu2, by rw [hu3]; exact hA _ _ hp⟩
    · have hZ : ∀ u, u ∈ Z → isEff u.o = false := fun u hu => by
        cases h : isEff u.o with
        | false => rfl
        | true => exact absurd ⟨u, hu, h⟩ hz
      have hBt : stB M0 (X ++ Z) = bound M0 X := by rw [stB_append, hB, stB_noeff hZ]
      rw [hBt] at f1
      refine ⟨_, fun i b h => ?_, f1⟩
      rcases withA_within h with h | ⟨j, hj, hp⟩
      · exact .inl h
      · refine .inr ?_
        rw [stAl_append] at hj
        have hX0 : stAl [] X = [] := by
          rcases hlast with rfl | ⟨A', e, rfl, hE⟩
          · rfl
          · rw [stAl_append]; simp [stAl, hE]
        rw [hX0] at hj
        rcases stAl_sub hj with h | ⟨u, hu1, hu2, hu3⟩
        · cases h
        · exact ⟨u, by rw [hY]; simp [hu1], hu2, by rw [hu3]; exact hA _ _ hp⟩

theorem AWP.regionD {P : Program} (hmo : P.follows .mixedOrders = true) {k id : Nat} {ops : Array Oper} (ord msk : List Nat) (A U : List (Nat × Nat)) {s : St} {Q : Exit → St → Prop} (hreg : okReg P k ops ord msk A U = true)
    (h : wpD P ops k s.mem.next A U (ord.map fun i => (i, opAt ops i)) 0 s.env (s.mem.bump (nAl P (ord.map fun i => opAt ops i))) (s.mem.bump (nAl P (ord.map fun i => opAt ops i))) [] [] [] fun e M => Q .normal ⟨e, M⟩) : AWP P k (.region id ops true) s Q := by
  simp only [okReg, Bool.and_eq_true] at hreg
  obtain ⟨⟨⟨⟨⟨⟨⟨hlen, hall⟩, hlt⟩, htopo⟩, hord⟩, hmask⟩, hA⟩, hdst⟩ := hreg
  rw [beq_iff] at hlen
  have hlen : ord.length = ops.size := by simpa using hlen
  have hlt' : ∀ i, i ∈ ord → i < ops.size := fun i hi => by simpa using List.all_eq_true.1 hlt i hi
  have hat : ∀ i, i ∈ ord → ops[i]? = some (opAt ops i) := fun i hi => by
    have := hlt' i hi
    simp [opAt, this]
  obtain ⟨T, e', M', q1, q2, q3, q4, q5, q7, q6⟩ := wpD_trace (ord.map fun i => (i, opAt ops i)) 0 s.env _ _ [] [] [] (fun p hp => by
    rw [List.mem_map] at hp
    obtain ⟨i, hi, rfl⟩ := hp
    exact hat i hi) h
  have q1' : T.map (·.i) = ord := by rw [q1, List.map_map]; exact List.map_id ord
  have hTi : ∀ t, t ∈ T → t.i ∈ ord := fun t ht => by rw [← q1']; exact List.mem_map.2 ⟨t, ht, rfl⟩
  have hTo : ∀ t, t ∈ T → opAt ops t.i = t.o := fun t ht => by
    have h1 := (q3 t ht).op
    have h2 := hat t.i (hTi t ht)
    rw [h1] at h2; exact (Option.some.inj h2).symm
  have hTs : ∀ X t C, T = X ++ t :: C → ord = X.map (·.i) ++ t.i :: C.map (·.i) := fun X t C hT => by rw [← q1', hT]; simp
  have hpair : ∀ X t C, T = X ++ t :: C → ∀ u, u ∈ X → okPair P ops msk U u.i t.i = true := fun X t C hT u hu =>
    okOrd_spec hord _ _ _ (hTs X t C hT) u.i (List.mem_map.2 ⟨u, hu, rfl⟩)
  have hpT : ∀ X t C, T = X ++ t :: C → ∀ u, u ∈ X → u ∈ T ∧ t ∈ T := fun X t C hT u hu => ⟨by rw [hT]; simp [hu], by rw [hT]; simp⟩
  have hanc : ∀ u t, u ∈ T → t ∈ T → amOf msk u.i t.i = true → Anc ops u.i t.i := fun u t hu ht h =>
    okMask_spec hmask t.i (hlt' _ (hTi t ht)) u.i (hlt' _ (hTi u hu)) h
  have hlooks : ∀ o s, looks ops o s → s ∈ o.looksAt ops := fun o s hl => by
    unfold Oper.looksAt
    rcases hl with hl | ⟨j, want, hg, hd⟩
    · exact List.mem_append_left _ (List.mem_filterMap.2 ⟨.tmp s, by simpa using hl, rfl⟩)
    · refine List.mem_append_right _ ?_
      simp only [hg, hd, Option.toList, List.mem_singleton]
  have look1 : ∀ u t, u ∈ T → t ∈ T → lookOk ops msk u.i t.i = true → ∀ s, u.o.dst = some s → looks ops t.o s → Anc ops u.i t.i ∨ Anc ops t.i u.i := fun u t hu ht h s hd hl => by
    unfold lookOk at h
    rw [hTo u hu, hTo t ht, hd] at h
    simp only [Bool.or_eq_true, Bool.not_eq_true'] at h
    rcases h with (h | h) | h
    · have := hlooks t.o s hl
      rw [← List.contains_iff_mem] at this
      rw [this] at h; cases h
    · exact .inl (hanc u t hu ht h)
    · exact .inr (hanc t u ht hu h)
  have hst : Static P k ops T := {
    len := by rw [← hlen, ← q1', List.length_map]
    nodup := fun X t C hT u hu => by
      have h := hpair X t C hT u hu
      simp only [okPair, Bool.and_eq_true, Bool.not_eq_true', beq_iff, decide_eq_false_iff_not] at h
      exact h.1.1.1.1.1.1
    all := fun i hi => by
      have := List.all_eq_true.1 hall i (List.mem_range.2 hi)
      rw [List.contains_iff_mem, ← q1', List.mem_map] at this
      obtain ⟨t, h1, h2⟩ := this
      exact ⟨t, h1, h2⟩
    lt := fun t ht => hlt' _ (hTi t ht)
    topo := fun X t C hT d hd => by
      have htT : t ∈ T := by rw [hT]; simp
      have hdd : d ∈ directs (opAt ops t.i) := by
        rw [hTo t htT]
        obtain ⟨o, ho, e, he, hb, rfl⟩ := hd
        rw [(q3 t htT).op] at ho; cases ho
        unfold directs
        exact List.mem_map.2 ⟨e, List.mem_filter.2 ⟨by simpa using he, hb⟩, rfl⟩
      rcases okTopo_spec htopo _ _ _ (hTs X t C hT) d hdd with h | h
      · cases h
      · obtain ⟨u, hu, hui⟩ := List.mem_map.1 h
        exact ⟨u, hu, hui⟩
    dst := fun t s ht hs => by
      have := List.all_eq_true.1 hdst t.i (hTi t ht)
      rw [hTo t ht] at this
      exact dstLt_spec this s hs
    one := fun X t C hT u hu s hs hs' => by
      have h := hpair X t C hT u hu
      simp only [okPair, Bool.and_eq_true] at h
      have h2 := h.1.1.1.1.1.2
      obtain ⟨huT, htT⟩ := hpT X t C hT u hu
      rw [hTo u huT, hTo t htT] at h2
      simp [dstsDiffer, hs, hs', beq_iff] at h2
    look := fun t u ht hu hne s hd hl => by
      obtain ⟨X, C, hT⟩ := List.append_of_mem ht
      have hu' := hu
      rw [hT] at hu'
      rcases List.mem_append.1 hu' with h | h
      · have hp := hpair X t C hT u h
        simp only [okPair, Bool.and_eq_true] at hp
        exact look1 u t hu ht hp.1.1.1.2 s hd hl
      · rcases List.mem_cons.1 h with rfl | h
        · exact absurd rfl hne
        · obtain ⟨C1, C2, hC⟩ := List.append_of_mem h
          have hp := hpair (X ++ t :: C1) u C2 (by rw [hT, hC]; simp) t (by simp)
          simp only [okPair, Bool.and_eq_true] at hp
          exact look1 u t hu ht hp.1.1.2 s hd hl
    effs := fun X t C hT hE u hu hh => by
      have h := hpair X t C hT u hu
      simp only [okPair, Bool.and_eq_true] at h
      have h2 := h.1.1.1.1.2
      obtain ⟨huT, htT⟩ := hpT X t C hT u hu
      rw [hTo u huT, hTo t htT, hE] at h2
      simp only [Bool.not_true, Bool.false_or, Bool.or_eq_true, Bool.not_eq_true', Bool.or_eq_false_iff] at h2
      rcases h2 with h2 | h2
      · rcases hh with h | h
        · rw [h2.1] at h; cases h
        · rw [h2.2] at h; cases h
      · exact hanc u t huT htT h2 }
  have hcr : ∀ t, t ∈ T → t.cls = .read → isEff t.o = false := fun t ht hc => by
    cases h : isEff t.o with
    | false => rfl
    | true => rcases (q3 t ht).kind h with h | h <;> rw [h] at hc <;> cases hc
  have hrdk : ∀ t, t ∈ T → t.cls = .read → isRd P t.o = true := fun t ht hc => by unfold isRd; rw [q7 t ht hc]
  have hU : ∀ X t C, T = X ++ t :: C → ∀ u, u ∈ X → (t.cls = .read → isEff u.o = true → inP U t.i u.i = true ∨ amOf msk u.i t.i = true) ∧ (u.cls = .read → isEff t.o = true → inP U u.i t.i = true ∨ amOf msk u.i t.i = true) := by
    intro X t C hT u hu
    have h := hpair X t C hT u hu
    simp only [okPair, Bool.and_eq_true] at h
    obtain ⟨huT, htT⟩ := hpT X t C hT u hu
    obtain ⟨⟨_, h1⟩, h2⟩ := h
    rw [hTo u huT, hTo t htT] at h1 h2
    refine ⟨fun hc hE => ?_, fun hc hE => ?_⟩
    · rw [hE, hrdk t htT hc] at h2
      simpa using h2
    · rw [hE, hrdk u huT hc] at h1
      simpa using h1
  have hAm : ∀ i j, inP A i j = true → amOf msk i j = true := fun i j h => List.all_eq_true.1 hA (i, j) (inP_mem h)
  have hreads := reads_of hst hanc hAm hU hcr q4
  have hids2 : ∀ t u i b b', t ∈ T → u ∈ T → t.cls = .alloc i b → u.cls = .alloc i b' → t.i = u.i := by
    intro t u i b b' ht hu hc hc'
    obtain ⟨X, C, hT⟩ := List.append_of_mem ht
    have hu' := hu
    rw [hT] at hu'
    rcases List.mem_append.1 hu' with h | h
    · obtain ⟨X1, X2, hX⟩ := List.append_of_mem h
      exact absurd hc ((q5 X1 u (X2 ++ t :: C) i b' (by rw [hT, hX]; simp) hc').2.2 t b (by simp))
    · rcases List.mem_cons.1 h with rfl | h
      · rfl
      · exact absurd hc' ((q5 X t C i b hT hc).2.2 u b' h)
  have hmap : (ord.map fun i => (i, opAt ops i)).map (·.2) = ord.map fun i => opAt ops i := by rw [List.map_map]; rfl
  rw [hmap] at q5
  refine ⟨.normal, ⟨e', M'⟩, ARun.region_any hmo (nA := nAl P (ord.map fun i => opAt ops i)) hst hids2 (fun t i b ht hc => ?_) q3 q2 (am := fun i j => amOf msk i j && decide (i < ops.size) && decide (j < ops.size)) (fun i j h => ?_) ?_, q6⟩
  · obtain ⟨X, C, hT⟩ := List.append_of_mem ht
    have := q5 X t C i b hT hc
    exact ⟨this.1, this.2.1⟩
  · simp only [Bool.and_eq_true, decide_eq_true_eq] at h
    exact okMask_spec hmask j h.2 i h.1.2 h.1.1
  · intro t ht hc X Y hXY hlast hx hy
    have hlt2 : ∀ u, u ∈ T → u.i < ops.size := fun u hu => hlt' _ (hTi u hu)
    have hX : ∀ u, u ∈ X → u ∈ T := fun u hu => by rw [hXY]; simp [hu]
    have hY : ∀ u, u ∈ Y → u ∈ T := fun u hu => by rw [hXY]; simp [hu]
    obtain ⟨m, h1, h2⟩ := hreads t ht hc X Y hXY hlast (fun u hu hE => by have := hx u hu hE; simpa [hlt2 t ht, hlt2 u (hX u hu)] using this) (fun u hu hE => by have := hy u hu hE; simpa [hlt2 t ht, hlt2 u (hY u hu)] using this)
    refine ⟨m, fun i b h => (h1 i b h).imp (fun h => h) fun ⟨u, hu, hcu, ha⟩ => ⟨u, hu, hcu, ?_⟩, h2⟩
    simp [ha, hlt2 t ht, hlt2 u (hY u hu)]
end Go.Proofs.Ythheaehpnleiaaa.AX

/- The layer, twentieth part: calls of functions with a body. -/
namespace Go.Proofs.Ythheaehpnleiaaa.AX
open Go
set_option linter.unusedVariables false
set_option linter.unusedSimpArgs false

/-- the same value, its numbers told anew: 'g' says which number of the run a number stands for -/
inductive RN (g : Nat → Nat) (hi : Nat) : Value → Value → Prop
  | bool (b : Bool) : RN g hi (.bool b) (.bool b)
  | int (k : IntKind) (n : Int) : RN g hi (.int k n) (.int k n)
  | float (k : FloatKind) (b : Nat) : RN g hi (.float k b) (.float k b)
  | complex (k : FloatKind) (a b : Nat) : RN g hi (.complex k a b) (.complex k a b)
  | string (s : ByteArray) : RN g hi (.string s) (.string s)
  | nilp : RN g hi (.pointer none) (.pointer none)
  | ptr {i j o : Nat} (h : i < hi) (hj : j = g i) : RN g hi (.pointer (some ⟨i, o, none⟩)) (.pointer (some ⟨j, o, none⟩))
  | nils : RN g hi (.slice none 0 0) (.slice none 0 0)
  | slice {i j o n c c' : Nat} (h : i < hi) (hj : j = g i) (hc : c = c' ∨ c = unk) : RN g hi (.slice (some ⟨i, o, none⟩) n c) (.slice (some ⟨j, o, none⟩) n c')
  | nilm : RN g hi (.map none) (.map none)
  | nilc : RN g hi (.chan none) (.chan none)
  | nilf : RN g hi .nilFunc .nilFunc
  | func (fn : Fn) {xs ys xs' ys' : Array Value} (hx : xs.size = xs'.size) (hy : ys.size = ys'.size) (h : ∀ (i : Nat) (v v' : Value), xs[i]? = some v → xs'[i]? = some v' → RN g hi v v')
      (h' : ∀ (i : Nat) (v v' : Value), ys[i]? = some v → ys'[i]? = some v' → RN g hi v v') : RN g hi (.func fn xs ys) (.func fn xs' ys')
  | iface (t : TypeId) {v v' : Value} (h : RN g hi v v') : RN g hi (.iface t v) (.iface t v')
  | nili : RN g hi .nilIface .nilIface
  | agg {xs xs' : Array Value} (hx : xs.size = xs'.size) (h : ∀ (i : Nat) (v v' : Value), xs[i]? = some v → xs'[i]? = some v' → RN g hi v v') : RN g hi (.agg xs) (.agg xs')
  | tuple {xs xs' : Array Value} (hx : xs.size = xs'.size) (h : ∀ (i : Nat) (v v' : Value), xs[i]? = some v → xs'[i]? = some v' → RN g hi v v') : RN g hi (.tuple xs) (.tuple xs')

theorem RN.vr {P : Program} {ρ₀ ρ : Emb} {g : Nat → Nat} {hi : Nat} (hg : ∀ i, i < hi → ∀ f, ρ₀ (g i) = some f → ρ i = some f) {v v₀ : Value} (h : RN g hi v v₀) : ∀ {v' : Value}, VR P ρ₀ v₀ v' → VR P ρ v v' := by
  have mid : ∀ {xs xs₀ xs' : Array Value}, xs.size = xs₀.size → xs₀.size = xs'.size → (∀ (i : Nat) (a b : Value), xs[i]? = some a → xs₀[i]? = some b → ∀ {v' : Value}, VR P ρ₀ b v' → VR P ρ a v') →
      (∀ (i : Nat) (a b : Value), xs₀[i]? = some a → xs'[i]? = some b → VR P ρ₀ a b) → ∀ (i : Nat) (a b : Value), xs[i]? = some a → xs'[i]? = some b → VR P ρ a b := by
    intro xs xs₀ xs' h1 h2 h3 h4 i a b ha hb
    have hlt : i < xs₀.size := by have := (Array.getElem?_eq_some_iff.1 ha).1; omega
    have hm : xs₀[i]? = some xs₀[i] := by simp [hlt]
    exact h3 i a _ ha hm (h4 i _ b hm hb)
  induction h with
  | bool b => intro v' h; cases h; exact .bool b
  | int k n => intro v' h; cases h; exact .int k n
  | float k n => intro v' h; cases h; exact .float k n
  | complex k a b => intro v' h; cases h; exact .complex k a b
  | string s => intro v' h; cases h; exact .string s
  | nilp => intro v' h; cases h; exact .nilp
  | ptr h hj => intro v' hv; subst hj; cases hv with | ptr hf => exact .ptr (hg _ h _ hf)
  | nils => intro v' h; cases h; exact .nils
  | slice h hj hc =>
    intro v' hv
    subst hj
    cases hv with
    | slice hf hn hc' hp hr hsp =>
      refine .slice (hg _ h _ hf) hn ?_ ?_ hr hsp
      · rcases hc with rfl | hc
        · exact hc'
        · exact .inr hc
      · intro hcase
        refine hp (hcase.imp (fun h => h) fun ⟨h1, h2⟩ => ?_)
        rcases hc with rfl | hc
        · exact ⟨h1, h2⟩
        · exact absurd hc h1
  | nilm => intro v' h; cases h; exact .nilm
  | nilc => intro v' h; cases h; exact .nilc
  | nilf => intro v' h; cases h; exact .nilf
  | func fn hx hy h h' ih ih' => intro v' hv; cases hv with | func _ a b c d => exact .func fn (hx.trans a) (hy.trans b) (mid hx a ih c) (mid hy b ih' d)
  | iface t h ih => intro v' hv; cases hv with | iface _ h => exact .iface t (ih h)
  | nili => intro v' h; cases h; exact .nili
  | agg hx h ih => intro v' hv; cases hv with | agg a b => exact .agg (hx.trans a) (mid hx a ih b)
  | tuple hx h ih => intro v' hv; cases hv with | tuple a b => exact .tuple (hx.trans a) (mid hx a ih b)

theorem RN.plain {g : Nat → Nat} {hi : Nat} {v : Value} (h : plain v = true) : RN g hi v v := by
  cases v <;> simp [AX.plain] at h <;> try constructor
  case pointer a => cases a <;> simp at h; exact .nilp
  case slice a n c =>
    cases a with
    | some a => simp at h
    | none => cases n <;> cases c <;> simp at h; exact .nils
  case map r => cases r <;> simp at h; exact .nilm
  case chan r => cases r <;> simp at h; exact .nilc

/-- which number of the run a number stands for: the elder ones stay -/
def rn (n0 : Nat) (π : Nat → Nat) (i : Nat) : Nat := if i < n0 then i else π i
inductive RNL (g : Nat → Nat) (hi : Nat) : List Value → List Value → Prop
  | nil : RNL g hi [] []
  | cons {v v' : Value} {l l' : List Value} (h : RN g hi v v') (h' : RNL g hi l l') : RNL g hi (v :: l) (v' :: l')
theorem RNL.at {g : Nat → Nat} {hi : Nat} {l l' : List Value} (h : RNL g hi l l') : ∀ (i : Nat) (v : Value), l[i]? = some v → ∃ v', l'[i]? = some v' ∧ RN g hi v v' := by
  induction h with
  | nil => intro i v hv; simp at hv
  | cons h _ ih =>
    intro i v hv
    cases i with
    | zero => simp at hv; subst hv; exact ⟨_, rfl, h⟩
    | succ i => simp at hv; obtain ⟨v', a, b⟩ := ih i v hv; exact ⟨v', by simpa using a, b⟩
theorem RNL.length {g : Nat → Nat} {hi : Nat} {l l' : List Value} (h : RNL g hi l l') : l.length = l'.length := by induction h <;> simp_all
theorem RNL.plain {g : Nat → Nat} {hi : Nat} {l : List Value} (h : l.all AX.plain = true) : RNL g hi l l := by
  induction l with
  | nil => exact .nil
  | cons v l ih => simp only [List.all_cons, Bool.and_eq_true] at h; exact .cons (RN.plain h.1) (ih h.2)

/-- a value that names elder blocks alone -/
def Old (n : Nat) (v : Value) : Prop := ∀ (g : Nat → Nat) (hi : Nat), n ≤ hi → (∀ i, i < n → g i = i) → RN g hi v v
theorem VR.old {P : Program} {ρ : Emb} {n : Nat} (hf : Free ρ n) {v v' : Value} (h : VR P ρ v v') : Old n v := by
  have hlt : ∀ i f, ρ i = some f → i < n := fun i f h => by
    rcases Nat.lt_or_ge i n with h' | h'
    · exact h'
    · rw [hf i h'] at h; cases h
  have arr : ∀ {xs xs' : Array Value}, xs.size = xs'.size → (∀ (i : Nat) (a b : Value), xs[i]? = some a → xs'[i]? = some b → Old n a) → ∀ (g : Nat → Nat) (hi : Nat), n ≤ hi → (∀ i, i < n → g i = i) → ∀ (i : Nat) (a b : Value), xs[i]? = some a → xs[i]? = some b → RN g hi a b := by
    intro xs xs' hs hh g hi h1 h2 i a b ha hb
    rw [ha] at hb; cases hb
    have hl : i < xs'.size := by have := (Array.getElem?_eq_some_iff.1 ha).1; omega
    exact hh i a xs'[i] ha (by simp [hl]) g hi h1 h2
  induction h with
  | bool b => exact fun g hi _ _ => .bool b
  | int k n => exact fun g hi _ _ => .int k n
  | float k n => exact fun g hi _ _ => .float k n
  | complex k a b => exact fun g hi _ _ => .complex k a b
  | string s => exact fun g hi _ _ => .string s
  | nilp => exact fun g hi _ _ => .nilp
  | ptr h => exact fun g hi h1 h2 => .ptr (Nat.lt_of_lt_of_le (hlt _ _ h) h1) (h2 _ (hlt _ _ h)).symm
  | nils => exact fun g hi _ _ => .nils
  | slice h hn hc hp hr hsp => exact fun g hi h1 h2 => .slice (Nat.lt_of_lt_of_le (hlt _ _ h) h1) (h2 _ (hlt _ _ h)).symm (.inl rfl)
  | nilm => exact fun g hi _ _ => .nilm
  | nilc => exact fun g hi _ _ => .nilc
  | nilf => exact fun g hi _ _ => .nilf
  | func fn hx hy _ _ ih ih' => exact fun g hi h1 h2 => .func fn rfl rfl (arr hx ih g hi h1 h2) (arr hy ih' g hi h1 h2)
  | iface t _ ih => exact fun g hi h1 h2 => .iface t (ih g hi h1 h2)
  | nili => exact fun g hi _ _ => .nili
  | agg hx _ ih => exact fun g hi h1 h2 => .agg rfl (arr hx ih g hi h1 h2)
  | tuple hx _ ih => exact fun g hi h1 h2 => .tuple rfl (arr hx ih g hi h1 h2)

/-- what a run came to, told anew -/
structure Settles (M : Mem) (r0 : Value) (M0 : Mem) (r : Value) (M' : Mem) (π : Nat → Nat) : Prop where
  next : M.next ≤ M'.next
  ge : ∀ i, M.next ≤ i → i < M'.next → M.next ≤ π i
  inj : ∀ i j, M.next ≤ i → i < M'.next → M.next ≤ j → j < M'.next → π i = π j → i = j
  val : RN (rn M.next π) M'.next r r0
  mem : ∀ i b, M'.get i = some b → (M.get i = some b ∧ M0.get i = some b) ∨
    (i < M'.next ∧ ∃ b0, M0.get (rn M.next π i) = some b0 ∧ b.elem = b0.elem ∧ (b.rw = true → b0.rw = true) ∧ RNL (rn M.next π) M'.next b.cells b0.cells)

/-- what is known of a memory, and of a call's arguments, ahead of the call -/
structure Wf (M : Mem) (args : List Value) : Prop where
  lt : ∀ i b, M.get i = some b → i < M.next
  old : ∀ i b v, M.get i = some b → v ∈ b.cells → Old M.next v
  arg : ∀ v, v ∈ args → Old M.next v
theorem wf_of {P : Program} {ρ : Emb} {M : Mem} {w : World} {args : List Value} {args' : Array Value} (ha : VRs P ρ args.toArray args') (hr : HR P ρ M.get w) (hf : Free ρ M.next) : Wf M args where
  lt := fun i b hi => by
    obtain ⟨f, h1, _⟩ := hr.one i b hi
    rcases Nat.lt_or_ge i M.next with h | h
    · exact h
    · rw [hf i h] at h1; cases h1
  old := fun i b v hi hv => by
    obtain ⟨f, h1, ho⟩ := hr.one i b hi
    obtain ⟨cs, el, fz, _, _, _, h4⟩ := ho.row
    obtain ⟨o, hlt, he⟩ := List.getElem_of_mem hv
    obtain ⟨v', _, h5⟩ := h4 o v (by rw [List.getElem?_eq_getElem hlt, he])
    exact h5.old hf
  arg := fun v hv => by
    obtain ⟨o, hlt, he⟩ := List.getElem_of_mem hv
    obtain ⟨v', _, h5⟩ := ha.get (i := o) (v := v) (by simp [hlt, he])
    exact h5.old hf

theorem rnl_old {g : Nat → Nat} {hi n : Nat} (h1 : n ≤ hi) (h2 : ∀ i, i < n → g i = i) {l : List Value} (h : ∀ v, v ∈ l → Old n v) : RNL g hi l l := by
  induction l with
  | nil => exact .nil
  | cons v l ih => exact .cons (h v (by simp) g hi h1 h2) (ih fun u hu => h u (by simp [hu]))
theorem rn_old {n : Nat} {π : Nat → Nat} (i : Nat) (h : i < n) : rn n π i = i := by simp [rn, h]

theorem settle {P : Program} {ρ ρ₀ : Emb} {M M₀ M' : Mem} {w w' : World} {r0 r r' : Value} {π : Nat → Nat} (hr : HR P ρ M.get w) (hf : Free ρ M.next) (hs : Settles M r0 M₀ r M' π)
    (hv : VR P ρ₀ r0 r') (hr0 : HR P ρ₀ M₀.get w') (hg : Grow ρ M w ρ₀ M₀ w') : ∃ ρ', VR P ρ' r r' ∧ HR P ρ' M'.get w' ∧ Free ρ' M'.next ∧ Grow ρ M w ρ' M' w' := by
  have hwf : Wf M [] := wf_of (args' := #[]) ⟨rfl, fun i v v' h => by simp at h⟩ hr hf
  have hmem : ∀ i b, M'.get i = some b → i < M'.next ∧ ∃ b0, M₀.get (rn M.next π i) = some b0 ∧ b.elem = b0.elem ∧ (b.rw = true → b0.rw = true) ∧ RNL (rn M.next π) M'.next b.cells b0.cells := fun i b hi => by
    rcases hs.mem i b hi with ⟨h1, h2⟩ | h
    · have hlt := hwf.lt i b h1
      exact ⟨Nat.lt_of_lt_of_le hlt hs.next, b, by rw [rn_old i hlt]; exact h2, rfl, fun h => h, rnl_old hs.next rn_old fun v hv => hwf.old i b v h1 hv⟩
    · exact h
  let ρ' : Emb := fun i => if i < M'.next then ρ₀ (rn M.next π i) else none
  have hρ : ∀ i, i < M'.next → ρ' i = ρ₀ (rn M.next π i) := fun i hi => by simp [ρ', hi]
  have hold : ∀ i, i < M.next → ρ' i = ρ₀ i := fun i hi => by
    have : i < M'.next := Nat.lt_of_lt_of_le hi hs.next
    simp [ρ', this, rn, hi]
  have hlt : ∀ i f, ρ i = some f → i < M.next := fun i f h => by
    rcases Nat.lt_or_ge i M.next with h' | h'
    · exact h'
    · rw [hf i h'] at h; cases h
  have hrn : ∀ i j, i < M'.next → j < M'.next → rn M.next π i = rn M.next π j → i = j := by
    intro i j hi hj he
    unfold rn at he
    split at he <;> split at he
    · exact he
    · have := hs.ge j (by omega) hj; omega
    · have := hs.ge i (by omega) hi; omega
    · exact hs.inj i j (by omega) hi (by omega) hj he
  have hval : ∀ {v v₀ v' : Value}, RN (rn M.next π) M'.next v v₀ → VR P ρ₀ v₀ v' → VR P ρ' v v' := fun h h' => h.vr (fun i hi f hf => by rw [hρ i hi]; exact hf) h'
  refine ⟨ρ', hval hs.val hv, ⟨fun i b hi => ?_, fun i j bi bj fi fj hij hi hj hrw hfi hfj => ?_⟩, fun i hi => by simp [ρ']; omega, ⟨⟨fun i f h => ?_, hg.ext.size, hg.ext.heap, fun i f h h' => ?_, fun i b' hi => ?_, hg.ext.io⟩, fun i hi hn => ?_, hs.next⟩⟩
  · obtain ⟨h1, b0, h2, h3, h4, h5⟩ := hmem i b hi
    obtain ⟨f, hf', ho⟩ := hr0.one _ b0 h2
    refine ⟨f, by rw [hρ i h1]; exact hf', ?_⟩
    obtain ⟨cs, el, fz, g1, g2, g3, g4⟩ := ho.row
    exact ⟨ho.elem.trans h3.symm, by rw [h5.length]; exact ho.room, cs, el, fz, g1, g2, fun h => g3 (h4 h), fun o v hv => by
      obtain ⟨v₀, e1, e2⟩ := h5.at o v hv
      obtain ⟨v', e3, e4⟩ := g4 o v₀ e1
      exact ⟨v', e3, hval e2 e4⟩⟩
  · obtain ⟨h1, b0, h2, _, h4, _⟩ := hmem i bi hi
    obtain ⟨h1', b0', h2', _, _, _⟩ := hmem j bj hj
    rw [hρ i h1] at hfi
    rw [hρ j h1'] at hfj
    exact hr0.apart _ _ b0 b0' fi fj (fun h => hij (hrn i j h1 h1' h)) h2 h2' (h4 hrw) hfi hfj
  · rw [hold i (hlt i f h)]; exact hg.ext.sub i f h
  · have hi : i < M'.next := by
      rcases Nat.lt_or_ge i M'.next with h2 | h2
      · exact h2
      · have : ρ' i = none := by simp [ρ']; omega
        rw [this] at h'; cases h'
    rw [hρ i hi] at h'
    unfold rn at h'
    split at h'
    · exact hg.ext.new i f h h'
    · exact hg.ext.new _ f (hf _ (hs.ge i (by omega) hi)) h'
  · obtain ⟨h1, b0, h2, _, h4, _⟩ := hmem i b' hi
    by_cases hi' : i < M.next
    · rw [show rn M.next π i = i by simp [rn, hi']] at h2
      exact (hg.ext.ids i b0 h2).imp (fun ⟨b, hb, hk⟩ => ⟨b, hb, fun h => hk (h4 h)⟩) fun h => h
    · exact .inr (hf i (by omega))
  · rw [hold i hi]; exact hg.keep i hi hn

/-! ### results and bodies -/
def resV (P : Program) (s : St) : List ResultVar → Option (List Value)
  | [] => some []
  | .tmp t :: l => match s.env.get t, resV P s l with
    | some v, some vs => some (v :: vs)
    | _, _ => none
  | .cell a t :: l => match s.env.get a with
    | some x => match loadV P s.mem.get t x, resV P s l with
      | some v, some vs => some (v :: vs)
      | _, _ => none
    | none => none
def retV (P : Program) (rs : List ResultVar) (s : St) : Option Value := match resV P s rs with
  | some [v] => some v
  | some vs => some (.tuple vs.toArray)
  | none => none

theorem run_resV {P : Program} {k : Nat} {ρ : Emb} {s : St} {a : Act} {w : World} (hc : Cur P k ρ s a w) : ∀ {l : List ResultVar} {vs : List Value}, resV P s l = some vs →
    ∃ vs', (l.mapM (m := Sem) fun | .tmp t => pure (a.tmps.getD t undef) | .cell c t => do loadVar t (← asAddr (a.tmps.getD c undef))).run P w = .ok vs' w ∧ VL P ρ vs vs' := by
  intro l
  induction l with
  | nil => intro vs h; simp only [resV, Option.some.injEq] at h; subst h; exact ⟨[], by simp, .nil⟩
  | cons r l ih =>
    intro vs h
    cases r with
    | tmp t =>
      simp only [resV] at h
      split at h
      · rename_i v us h1 h2
        cases h
        obtain ⟨v', e1, e2⟩ := hc.er t v h1
        obtain ⟨us', e3, e4⟩ := ih h2
        refine ⟨v' :: us', ?_, .cons e2 e4⟩
        rw [List.mapM_cons]
        simp only [Sem.run_bind, Sem.run_pure, Result.andThen_ok]
        rw [e3]
        simp [e1]
      · cases h
    | cell c t =>
      simp only [resV] at h
      split at h
      · rename_i x h0
        split at h
        · rename_i v us h1 h2
          cases h
          obtain ⟨x', e1, e2⟩ := hc.er c x h0
          obtain ⟨ad, v', g1, g2, g3⟩ := run_loadVar (w := w) h1 e2 hc.hr
          obtain ⟨us', e3, e4⟩ := ih h2
          refine ⟨v' :: us', ?_, .cons g3 e4⟩
          rw [List.mapM_cons]
          have hx : a.tmps.getD c undef = .pointer (some ad) := by rw [← g1]; simp [e1]
          have hx2 : (asAddr (a.tmps.getD c undef)).run P w = .ok ad w := by rw [hx]; rfl
          simp only [Sem.run_bind, hx2, Sem.run_pure, Result.andThen_ok, g2]
          rw [e3]; rfl
        · cases h
      · cases h
theorem run_retV {P : Program} {k : Nat} {ρ : Emb} {s : St} {a : Act} {w : World} (hc : Cur P k ρ s a w) {fn : Func} {v : Value} (h : retV P fn.results.toList s = some v) :
    ∃ v', (results fn a.tmps).run P w = .ok v' w ∧ VR P ρ v v' := by
  unfold retV at h
  have key : ∀ vs, resV P s fn.results.toList = some vs → ∃ vs', (results fn a.tmps).run P w = .ok (if h : vs'.toArray.size = 1 then vs'.toArray[0] else .tuple vs'.toArray) w ∧ VL P ρ vs vs' := by
    intro vs hvs
    obtain ⟨vs', h1, h2⟩ := run_resV hc hvs
    refine ⟨vs', ?_, h2⟩
    unfold results
    rw [Array.mapM_eq_mapM_toList]
    simp only [Sem.run_bind, Sem.run_map]
    generalize hm : Sem.run P (List.mapM (m := Sem) _ fn.results.toList) w = res
    have : res = .ok vs' w := by rw [← hm]; exact h1
    subst this
    rfl
  split at h
  · rename_i u hu
    cases h
    obtain ⟨vs', h1, h2⟩ := key _ hu
    cases h2 with
    | cons h2 h3 => cases h3; exact ⟨_, h1, h2⟩
  · rename_i vs hn hu
    cases h
    obtain ⟨vs', h1, h2⟩ := key _ hu
    have hl := h2.length
    refine ⟨.tuple vs'.toArray, ?_, .tuple h2.vrs.1 h2.vrs.2⟩
    rw [h1, dif_neg]
    intro h
    have : vs.length = 1 := by simp at h; omega
    match vs, this with
    | [x], _ => exact hn x rfl
  · cases h

def argEnv : Nat → List Value → Env
  | _, [] => []
  | i, v :: l => (i, v) :: argEnv (i + 1) l
theorem argEnv_get {l : List Value} : ∀ {i t : Nat} {v : Value}, (argEnv i l).get t = some v → i ≤ t ∧ l[t - i]? = some v := by
  induction l with
  | nil => intro i t v h; simp [argEnv, Env.get] at h
  | cons u l ih =>
    intro i t v h
    simp only [argEnv, Env.get, beq_iff, Bool.cond_decide] at h
    by_cases hit : i = t
    · subst hit; simp only [if_true, Option.some.injEq] at h; subst h; simp
    · simp only [hit, if_false] at h
      obtain ⟨h1, h2⟩ := ih h
      refine ⟨by omega, ?_⟩
      rw [show t - i = (t - (i + 1)) + 1 by omega, List.getElem?_cons_succ]; exact h2

theorem ACall.body {P : Program} {f : FuncId} {fn : Func} {c : Code} {k : Nat} {rs : List ResultVar} {args : List Value} {M M' : Mem} {r : Value} (hf : P.funcs[f]? = some fn) (hb : fn.body = some c) (hkk : fn.ntmps = k) (hrs : fn.results.toList = rs) (hk : args.length ≤ k)
    (h : Wf M args → AWP P k c ⟨argEnv 0 args, M⟩ fun e s' => (e = .normal ∨ e = .ret) ∧ ∃ r0 π, retV P rs s' = some r0 ∧ Settles M r0 s'.mem r M' π) : ACall P f args.toArray M r M' := by
  subst hkk hrs
  intro ρ w args' ha hr hfr
  obtain ⟨e, s', hrun, he, r0, π, hret, hset⟩ := h (wf_of ha hr hfr)
  have hsz : args'.size = args.length := by have := ha.1; simp at this; omega
  have hcur : Cur P fn.ntmps ρ ⟨argEnv 0 args, M⟩ { tmps := args' ++ Array.replicate (fn.ntmps - args'.size) undef, defers := [] } w := by
    refine ⟨fun t v ht => ?_, hr, hfr, rfl, by simp; omega⟩
    obtain ⟨_, h2⟩ := argEnv_get ht
    simp at h2
    obtain ⟨v', h3, h4⟩ := ha.get (i := t) (by simpa using h2)
    have hlt := (Array.getElem?_eq_some_iff.1 h3).1
    exact ⟨v', by rw [Array.getElem?_append_left hlt]; exact h3, h4⟩
  refine calls_of_wp hf hb (wp_mono (hrun ρ _ w hcur) ?_)
  rintro x a' w' ⟨rfl, ρ₀, hc', hg⟩
  · obtain ⟨r', e1, e2⟩ := run_retV hc' hret
    obtain ⟨ρ', g1, g2, g3, g4⟩ := settle hr hfr hset e2 hc'.hr hg
    have hfin : a'.defers = [] ∧ ∃ v, (results fn a'.tmps).run P w' = .ok v w' ∧ (∃ r' ρ', Ending.returned v = .returned r' ∧ VR P ρ' r r' ∧ HR P ρ' M'.get w' ∧ Free ρ' M'.next ∧ Grow ρ M w ρ' M' w') :=
      ⟨hc'.defers, r', e1, ⟨r', ρ', rfl, g1, g2, g3, g4⟩⟩
    rcases he with rfl | rfl
    · exact hfin
    · exact hfin
end Go.Proofs.Ythheaehpnleiaaa.AX
