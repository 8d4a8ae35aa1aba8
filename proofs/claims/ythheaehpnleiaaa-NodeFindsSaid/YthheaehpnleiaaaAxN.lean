/- The layer, fourteenth part: append. -/
import Derived.Test.YthheaehpnleiaaaAxM
namespace Go.Proofs.Ythheaehpnleiaaa.AX
open Go
set_option linter.unusedVariables false
set_option linter.unusedSimpArgs false

def delM (m : Mm) (b : Nat) : Mm := fun i => if i = b then none else m i
theorem del_get (M : Mem) (b : Nat) : (M.del b).get = delM M.get b := funext fun i => Mem.get_del M b i

/-- a block that goes on under another number -/
theorem HR.move {P : Program} {ρ : Emb} {m : Mm} {w w' : World} (hr : HR P ρ m w) {b id p : Nat} {blk : Blk} {f : Inf} (hb : m b = some blk) (hrw : blk.rw = true) (hf : ρ b = some f) (hid : ρ id = none) {cells : List Value} {cs' : Array Value} {fz : Nat × Nat}
    (hsz : cs'.size = f.room) (hfz : fz = (0, 0) ∨ fz = (cs'.size, cs'.size + 1)) (hlen : p + cells.length ≤ f.room)
    (hcs : ∀ (o : Nat) (v : Value), cells[o]? = some v → ∃ v', cs'[p + o]? = some v' ∧ VR P ρ v v') (hw : w'.heap = w.heap.setIfInBounds f.blk (.cells cs' f.elem fz)) (hio : Io w w') :
    HR P (updE ρ id ⟨f.blk, p, f.room, f.elem⟩) (updM (delM m b) id ⟨cells, f.elem, true⟩) w' ∧ Ext ρ m w (updE ρ id ⟨f.blk, p, f.room, f.elem⟩) (updM (delM m b) id ⟨cells, f.elem, true⟩) w' := by
  obtain ⟨f₀, hf₀, ho⟩ := hr.one b blk hb
  rw [hf] at hf₀; cases hf₀
  have hlt := ho.lt
  have hsub : Sub ρ (updE ρ id ⟨f.blk, p, f.room, f.elem⟩) := fun i g hg => by
    unfold updE
    have : i ≠ id := by rintro rfl; rw [hid] at hg; cases hg
    simp [this, hg]
  have hoff : ∀ B, B ≠ f.blk → w'.heap[B]? = w.heap[B]? := fun B hB => by rw [hw, Array.getElem?_setIfInBounds_ne (Ne.symm hB)]
  have hother : ∀ i bi fi, i ≠ b → m i = some bi → ρ i = some fi → fi.blk ≠ f.blk := fun i bi fi hi hmi hfi => (hr.apart b i blk bi f fi (Ne.symm hi) hb hmi hrw hf hfi).symm
  have old : ∀ i bi, i ≠ id → updM (delM m b) id ⟨cells, f.elem, true⟩ i = some bi → i ≠ b ∧ m i = some bi := fun i bi hi h => by
    unfold updM delM at h
    simp only [hi, if_false] at h
    split at h
    · cases h
    · rename_i hn; exact ⟨hn, h⟩
  refine ⟨⟨fun i c hi => ?_, ?_⟩, ⟨hsub, by rw [hw]; simp, fun B hB hnw => hoff B fun h => hnw ⟨b, blk, f, hb, hrw, hf, h.symm⟩, fun i g hi hg => ?_, fun i c hi => ?_, hio⟩⟩
  · by_cases hii : i = id
    · subst hii
      simp only [updM, if_true, Option.some.injEq] at hi; subst hi
      refine ⟨⟨f.blk, p, f.room, f.elem⟩, by simp [updE], rfl, hlen, cs', f.elem, fz, by rw [hw]; simp [hlt], hsz, fun _ => ⟨rfl, hfz⟩, fun o v hv => ?_⟩
      obtain ⟨v', h1, h2⟩ := hcs o v hv
      exact ⟨v', h1, h2.mono hsub⟩
    · obtain ⟨hn, hm⟩ := old i c hii hi
      obtain ⟨g, hg, hog⟩ := hr.one i c hm
      exact ⟨g, hsub i g hg, hog.mono hsub (hoff _ (hother i c g hn hm hg))⟩
  · intro i j bi bj fi fj hij hi hj hr' hfi hfj
    by_cases hii : i = id
    · have hjj : j ≠ id := fun h => hij (hii.trans h.symm)
      obtain ⟨hn, hm⟩ := old j bj hjj hj
      simp only [updE, hii, if_true, Option.some.injEq] at hfi
      simp only [updE, hjj, if_false] at hfj
      subst hfi
      exact (hother j bj fj hn hm hfj).symm
    · obtain ⟨hn, hm⟩ := old i bi hii hi
      simp only [updE, hii, if_false] at hfi
      by_cases hjj : j = id
      · simp only [updE, hjj, if_true, Option.some.injEq] at hfj
        subst hfj
        exact hother i bi fi hn hm hfi
      · obtain ⟨hn2, hm2⟩ := old j bj hjj hj
        simp only [updE, hjj, if_false] at hfj
        exact hr.apart i j bi bj fi fj hij hm hm2 hr' hfi hfj
  · unfold updE at hg
    by_cases hii : i = id
    · simp only [hii, if_true, Option.some.injEq] at hg; subst hg; exact .inr ⟨b, blk, f, hb, hrw, hf, rfl⟩
    · simp only [hii, if_false] at hg; rw [hi] at hg; cases hg
  · by_cases hii : i = id
    · subst hii; exact .inr hid
    · obtain ⟨_, hm⟩ := old i c hii hi; exact .inl ⟨c, hm, fun h => h⟩

theorem run_zeroC' {P : Program} {t : TypeId} {cs : Array Value} (h : zeroC P t = some cs) : ∃ z, (∀ w, (zeroValue t).run P w = .ok z w) ∧ z.cells = cs := by
  unfold zeroC at h
  split at h
  · rename_i i h1
    split at h
    · rename_i z h2
      cases hp : plains z.cells with
      | false => simp [hp] at h
      | true => simp [hp] at h; subst h; exact ⟨z, fun w => by simp [zeroValue, typeInfo, h1, h2], rfl⟩
    · cases h
  · cases h

theorem execOp_append {P : Program} {w : World} {o : Oper} {a : Act} {p q : Operand} {t tx : TypeId} (ho : o.op = .call { callee := .builtin .append, args := #[p, q], argTypes := #[t, tx] }) :
    (execOp a.eval o).run P w = ((Builtin.append_ #[t, tx] o.type #[a.eval p, a.eval q]).run P w).andThen fun v w' => .ok (.value v) w' := by
  unfold execOp
  simp only [ho, resolve, Sem.run_bind, Sem.run_pure, Result.andThen_ok, invoke, builtin, List.map_toArray, List.map_cons, List.map_nil]

theorem free_upd {ρ : Emb} {n id : Nat} {f : Inf} (h : Free ρ n) (hid : id = n) : Free (updE ρ id f) (n + 1) := fun i hi => by
  unfold updE
  have : i ≠ id := by omega
  simp [this, h i (by omega)]

/-- the run that makes a new row -/
theorem grown_out {P : Program} {ρ : Emb} {M N : Mem} {w : World} (hr : HR P ρ M.get w) (hf : Free ρ M.next) (hN : Within N.get M.get) (hnx : N.next = M.next) {e : TypeId} {i : TypeInfo} (hi : P.info? e = some i) {z : Value} (hz : z.cells.size = i.size)
    {olds news olds' news' : List Value} {k n c : Nat} (h1 : VL P ρ olds olds') (h2 : VL P ρ news news') (l1 : olds'.length = k * i.size) (l2 : news'.length = n * i.size) :
    ∃ ρ', VR P ρ' (grownE P N e (olds ++ news) (k + n)).1 (.slice (some ⟨w.heap.size, 0, none⟩) (k + n) (grownCap w (k + n) c e)) ∧
      HR P ρ' (grownE P N e (olds ++ news) (k + n)).2.get { w with drawn := w.drawn + 1, heap := w.heap.push (.cells (olds'.toArray ++ news'.toArray ++ Builtin.zeroCells z.cells (grownCap w (k + n) c e - (k + n))) e) } ∧
      Free ρ' (grownE P N e (olds ++ news) (k + n)).2.next ∧
      Grow ρ M w ρ' (grownE P N e (olds ++ news) (k + n)).2 { w with drawn := w.drawn + 1, heap := w.heap.push (.cells (olds'.toArray ++ news'.toArray ++ Builtin.zeroCells z.cells (grownCap w (k + n) c e - (k + n))) e) } := by
  have hcap : k + n ≤ grownCap w (k + n) c e := by unfold grownCap Question.cut; exact Nat.le_add_right _ _
  generalize grownCap w (k + n) c e = cap at *
  have hid : ρ N.next = none := hf _ (by omega)
  have hsize : (olds'.toArray ++ news'.toArray ++ Builtin.zeroCells z.cells (cap - (k + n))).size = cap * i.size := by
    simp only [Array.size_append, List.size_toArray, Builtin.zeroCells, Array.size_map, Array.size_range, l1, l2, hz]
    rw [← Nat.add_mul, ← Nat.add_mul]; congr 1; omega
  have hvl := h1.append h2
  have hl := hvl.length
  obtain ⟨q1, q2, q3⟩ := (hr.within hN).alloc (cells := olds ++ news) (cs := olds'.toArray ++ news'.toArray ++ Builtin.zeroCells z.cells (cap - (k + n))) (elem := e) (fz := (0, 0)) hid (.inl rfl)
    (by rw [hl, hsize, List.length_append, l1, l2, ← Nat.add_mul]; exact Nat.mul_le_mul_right _ hcap)
    (fun j v hv => by
      obtain ⟨v', g1, g2⟩ := hvl.at j v hv
      refine ⟨v', ?_, g2⟩
      have hlt : j < (olds' ++ news').length := (List.getElem?_eq_some_iff.1 g1).1
      rw [Array.getElem?_append_left (by simpa using hlt)]
      simpa using g1) (w' := { w with drawn := w.drawn + 1, heap := w.heap.push (.cells (olds'.toArray ++ news'.toArray ++ Builtin.zeroCells z.cells (cap - (k + n))) e) }) rfl ⟨rfl, rfl, rfl⟩ (rw_ := true)
  have hget : (grownE P N e (olds ++ news) (k + n)).2.get = updM N.get N.next ⟨olds ++ news, e, true⟩ := by
    show ((N.put N.next _).bump 1).get = _
    rw [show ((N.put N.next ⟨olds ++ news, e, true⟩).bump 1).get = (N.put N.next ⟨olds ++ news, e, true⟩).get from rfl, put_get]
  refine ⟨updE ρ N.next ⟨w.heap.size, 0, (olds'.toArray ++ news'.toArray ++ Builtin.zeroCells z.cells (cap - (k + n))).size, e⟩,
    row_new (n := w.heap.size) (s := (olds'.toArray ++ news'.toArray ++ Builtin.zeroCells z.cells (cap - (k + n))).size) (e := e) (by simp only [updE, if_true]) hcap (.inr rfl) (by rw [cellsOf_eq hi, hsize]; exact Nat.le_refl _), by rw [hget]; exact q1, ?_, ⟨by rw [hget]; exact q2.less hN, fun j hj hn => ?_, ?_⟩⟩
  · show Free _ (N.next + 1)
    rw [hnx]
    exact free_upd hf rfl
  · unfold updE
    have : j ≠ N.next := by omega
    simp [this, hn]
  · show M.next ≤ N.next + 1
    omega

theorem appendE_ok {P : Program} {o : Oper} {ev : Operand → Option Value} {M M' : Mem} {t tx : TypeId} {p q : Operand} {s x v : Value} (ho : o.op = .call { callee := .builtin .append, args := #[p, q], argTypes := #[t, tx] }) (hs : ev p = some s) (hx : ev q = some x)
    (h : appendE P M t tx s x = some (v, M')) : EffOk P o ev M v M' := by
  refine EffOk.of_run fun ρ a w hop hr hf => ?_
  have e1 := hop.at (x := p) (by simp [ho, Op.operands, Call.operands]) hs
  have e2 := hop.at (x := q) (by simp [ho, Op.operands, Call.operands]) hx
  rw [execOp_append ho]
  generalize a.eval p = s' at e1
  generalize a.eval q = x' at e2
  unfold appendE at h
  split at h
  · rename_i e d h1 h2
    split at h
    · rename_i i z h3 h4
      split at h
      · cases h
      · rename_i hcond
        have c1 : isInt d = false := by cases hh : isInt d <;> simp_all
        have c2 : i.bytes ≠ 0 := fun hh => hcond (.inr (.inl hh))
        have c3 : z.size = i.size := Classical.byContradiction fun hh => hcond (.inr (.inr hh))
        obtain ⟨zv, hz1, hz2⟩ := run_zeroC' h4
        split at h
        · rename_i k olds n news g1 g2
          obtain ⟨k1, olds', k2, k3, k4⟩ := run_content g1 e1 hr
          obtain ⟨n1, news', n2, n3, n4⟩ := run_content g2 e2 hr
          have hNself : Within M.get M.get := fun _ _ h => h
          have stay : ∀ base c', s' = .slice base k c' → k ≤ c' → n = 0 → ((Builtin.append_ #[t, tx] o.type #[s', x']).run P w).andThen (fun v w' => .ok (Next.value v) w') = .ok (Next.value s') w := by
            rintro base c' rfl hkc rfl
            have hnil : news' = [] := List.eq_nil_of_length_eq_zero (by rw [n2]; simp)
            subst hnil
            rw [run_append_in h1 h2 c1 h3 n1 (n4 w fun _ _ => rfl) (by omega)]
            cases base <;> rfl
          have out : ∀ base c', s' = .slice base k c' → c' < k + n → (k + n) * i.bytes ≤ 140737488355328 → ∀ N : Mem, Within N.get M.get → N.next = M.next → (v, M') = grownE P N e (olds ++ news) (k + n) →
              ∃ v' ρ' w', (((Builtin.append_ #[t, tx] o.type #[s', x']).run P w).andThen (fun v w' => .ok (Next.value v) w') = .ok (Next.value v') w' ∨ (((Builtin.append_ #[t, tx] o.type #[s', x']).run P w).andThen (fun v w' => .ok (Next.value v) w') = .ok Next.skip w' ∧ v' = undef)) ∧
                VR P ρ' v v' ∧ HR P ρ' M'.get w' ∧ Free ρ' M'.next ∧ Grow ρ M w ρ' M' w' := by
            rintro base c' rfl hlt hbytes N hN hnx hv
            have hrun := run_append_out (ty := o.type) h1 h2 c1 h3 hz1 (base := base) (k := k) (c := c') c2 n1 k4 n4 hlt hbytes
            obtain ⟨ρ', q1, q2, q3, q4⟩ := grown_out (c := c') hr hf hN hnx h3 (z := zv) (by rw [hz2]; exact c3) k3 n3 k2 n2
            rw [← hv] at q1 q2 q3 q4
            exact ⟨_, ρ', _, .inl (by rw [hrun]; rfl), q1, q2, q3, q4⟩
          split at h
          · rename_i m c
            cases e1
            simp only [contentV, Option.some.injEq, Prod.mk.injEq] at g1
            obtain ⟨rfl, rfl⟩ := g1
            split at h
            · rename_i hn0
              cases h
              exact ⟨_, ρ, w, .inl (stay none 0 rfl (Nat.le_refl _) hn0), .nils, hr, hf, Grow.refl _ _ _⟩
            · rename_i hn0
              split at h
              · rename_i hbytes
                exact out none 0 rfl (by omega) hbytes M hNself rfl (Option.some.inj h).symm
              · cases h
          · rename_i b off k' c
            have e1' := e1
            cases e1 with
            | slice hfb hn hc hp hroom hsp =>
              rename_i c' pp sp f
              split at h
              · rename_i hn0
                cases h
                have hkk : k = k' := by
                  have := k1
                  simp only [Builtin.lenOf] at this
                  injection this with this
                  exact this.symm
                subst hkk
                exact ⟨_, ρ, w, .inl (stay _ _ rfl hn hn0), e1', hr, hf, Grow.refl _ _ _⟩
              · rename_i hn0
                split at h
                · rename_i hcc
                  obtain ⟨hbytes, rfl, hones⟩ := hcc
                  split at h
                  · rename_i hex
                    have : c = c' := hc.resolve_right hex.1
                    subst this
                    exact out _ _ rfl hex.2 hbytes M hNself rfl (Option.some.inj h).symm
                  · split at h
                    · rename_i blk hb
                      split at h
                      · rename_i hbc
                        obtain ⟨hrw, rfl⟩ := hbc
                        have hN : Within (M.del b).get M.get := fun j c hj => by
                          rw [del_get] at hj; unfold delM at hj
                          split at hj
                          · cases hj
                          · exact hj
                        by_cases hlt : c' < k + n
                        · exact out _ _ rfl hlt hbytes (M.del b) hN rfl (Option.some.inj h).symm
                        · obtain ⟨f', hf', hone⟩ := hr.one b blk hb
                          rw [hfb] at hf'; cases hf'
                          obtain rfl := hsp (by omega)
                          obtain ⟨cs, fz, r1, r2, r3, r4⟩ := hone.own (by first | assumption | simp_all)
                          have hel := hone.elem
                          have hcz : P.cellsOf f.elem = i.size := by rw [hel]; exact cellsOf_eq h3
                          rw [hcz] at hroom
                          have hmul : (k + n) * i.size ≤ c' * i.size := Nat.mul_le_mul_right _ (by omega)
                          rw [Nat.add_mul] at hmul
                          have hle : pp + k * i.size + 0 + news'.length ≤ cs.size := by rw [n2, r2]; omega
                          have hst := run_storeCells_own (P := P) (o := pp + k * i.size) news' 0 w cs r1 (r3 hrw) hle (by rw [n3.ones]; exact hones)
                          have hrun := run_append_in (ty := o.type) h1 h2 c1 h3 (base := some ⟨f.blk, pp, none⟩) (k := k) (c := c') n1 (n4 w fun _ _ => rfl) (by omega)
                          simp only [addr_add] at hrun
                          rw [hst] at hrun
                          simp only [Result.andThen_ok] at hrun
                          have hid : ρ M.next = none := hf _ (Nat.le_refl _)
                          have hvl := k3.append n3
                          -- the elder elements lie where the slice begins
                          have hold : ∀ (j : Nat) (u : Value), olds'[j]? = some u → cs[pp + j]? = some u := by
                            intro j u hu
                            have hlt' : j < olds'.length := (List.getElem?_eq_some_iff.1 hu).1
                            have hk0 : 0 < k := by
                              rcases Nat.eq_zero_or_pos k with h0 | h0
                              · rw [h0, Nat.zero_mul] at k2; omega
                              · exact h0
                            have hpe := hp (.inl hk0)
                            have hfc := k4 w fun _ _ => rfl
                            unfold contentV at g1
                            simp only [show ¬ k = 0 by omega, if_false, hb] at g1
                            split at g1
                            · rename_i hle'
                              obtain ⟨us, u1, u2, u3⟩ := hone.range hle'
                              have hfc2 := run_firstCells_some (P := P) w i.size k ⟨f.blk, pp, none⟩ k c' us u1 (fun j u hu => by rw [hpe]; exact u3 j u hu)
                              rw [hfc2] at hfc
                              have : us = olds' := by
                                injection hfc with hfc _
                                exact Array.toList_inj.2 hfc
                              subst this
                              have := u3 j u hu
                              rw [addr_add] at this
                              simp [World.cell?, r1] at this
                              rw [hpe]; exact this
                            · cases g1
                          obtain ⟨q1, q2⟩ := hr.move (p := pp) (id := M.next) (cells := olds ++ news) (cs' := setR cs (pp + k * i.size + 0) news') (fz := fz) hb hrw hfb hid (by rw [setR_size]; exact r2) (by rw [setR_size]; exact r3 hrw)
                            (by rw [hvl.length, List.length_append, k2, n2]; omega)
                            (fun j u hu => by
                              obtain ⟨u', g3, g4⟩ := hvl.at j u hu
                              refine ⟨u', ?_, g4⟩
                              rw [setR_get _ _ _ _ hle]
                              by_cases hj : j < olds'.length
                              · rw [List.getElem?_append_left hj] at g3
                                rw [if_neg (by omega)]
                                exact hold j u' g3
                              · rw [List.getElem?_append_right (by omega)] at g3
                                have hlt' : j - olds'.length < news'.length := (List.getElem?_eq_some_iff.1 g3).1
                                rw [if_pos (by omega), show pp + j - (pp + k * i.size + 0) = j - olds'.length by omega]
                                exact g3) (w' := { w with heap := w.heap.setIfInBounds f.blk (.cells (setR cs (pp + k * i.size + 0) news') f.elem fz) }) rfl ⟨rfl, rfl, rfl⟩
                          have hv := Option.some.inj h
                          have hget : (grownE P (M.del b) blk.elem (olds ++ news) (k + n)).2.get = updM (delM M.get b) M.next ⟨olds ++ news, f.elem, true⟩ := by
                            show (((M.del b).put M.next ⟨olds ++ news, blk.elem, true⟩).bump 1).get = _
                            rw [show (((M.del b).put M.next ⟨olds ++ news, blk.elem, true⟩).bump 1).get = ((M.del b).put M.next ⟨olds ++ news, blk.elem, true⟩).get from rfl, put_get, del_get, hel]
                          have hM : (grownE P (M.del b) blk.elem (olds ++ news) (k + n)).2 = M' := by rw [hv]
                          have hV : (grownE P (M.del b) blk.elem (olds ++ news) (k + n)).1 = v := by rw [hv]
                          rw [hM] at hget
                          have hnx : M'.next = M.next + 1 := by rw [← hM]; rfl
                          refine ⟨_, _, _, .inl (by rw [hrun]; rfl), ?_, by rw [hget]; exact q1, by rw [hnx]; exact free_upd hf rfl, ⟨by rw [hget]; exact q2, fun j hj hn => ?_, by omega⟩⟩
                          · rw [← hV]
                            have := VR.slice (P := P) (ρ := updE ρ M.next ⟨f.blk, pp, f.room, f.elem⟩) (i := M.next) (o := 0) (n := k + n) (c := unk) (c' := c') (p := pp) (f := ⟨f.blk, pp, f.room, f.elem⟩) (by simp [updE]) (by omega) (.inr rfl) (fun _ => rfl) (by rw [hcz]; exact hroom) (fun _ => rfl)
                            exact this
                          · unfold updE
                            have : j ≠ M.next := by omega
                            simp [this, hn]
                      · cases h
                    · cases h
                · cases h
          · cases h
        · cases h
    · cases h
  · cases h
end Go.Proofs.Ythheaehpnleiaaa.AX
