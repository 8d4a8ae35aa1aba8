/- The layer, twelfth part: blocks made: the proof; stores, appends, copies, calls. -/
import Derived.Test.YthheaehpnleiaaaAxK
namespace Go.Proofs.Ythheaehpnleiaaa.AX
open Go
set_option linter.unusedVariables false
set_option linter.unusedSimpArgs false

theorem cellsOf_eq {P : Program} {t : TypeId} {i : TypeInfo} (h : P.info? t = some i) : P.cellsOf t = i.size := by simp [Program.cellsOf, h]

theorem allocA_ok {P : Program} {o : Oper} {ev : Operand → Option Value} {b : Blk} {mk : Nat → Value} (h : allocA P ev o.op = some (b, mk)) : AllocOk P o ev b mk := by
  unfold allocA at h
  split at h
  · rename_i t ho
    split at h
    · rename_i z hz
      cases h
      refine AllocOk.of_run fun ρ a w hop => ?_
      obtain ⟨zv, h1, h2, h3⟩ := run_zeroC (w := w) hz
      subst h2
      refine ⟨_, zv.cells, (0, 0), { w with heap := w.heap.push (.cells zv.cells t) }, ?_, ⟨rfl, Io.refl w⟩, .inl rfl, Nat.le_of_eq (by simp), fun i v hv => (plains_self h3).at i v hv, fun ρ' id hid => ptr_new hid⟩
      unfold execOp
      simp only [ho, Instr.alloc, Sem.run_bind, h1, Result.andThen_ok, newVar, newRow, run_newObj, Sem.run_pure]
    · cases h
  · rename_i t x ho
    split at h
    · rename_i v hv
      cases h
      refine AllocOk.of_run fun ρ a w hop => ?_
      have hx := (hop.at (x := x) (by simp [ho, Op.operands]) hv).cells
      refine ⟨_, (a.eval x).cells, (0, 0), { w with heap := w.heap.push (.cells (a.eval x).cells t) }, ?_, ⟨rfl, Io.refl w⟩, .inl rfl, Nat.le_of_eq (by simpa using hx.length), fun i v hv => by simpa using hx.at i v hv, fun ρ' id hid => ptr_new hid⟩
      unfold execOp
      simp only [ho, Instr.box, Sem.run_bind, newVar, newRow, run_newObj, Result.andThen_ok, Sem.run_pure]
    · cases h
  · rename_i t len parts ho
    split at h
    · rename_i e ps h1 h2
      split at h
      · rename_i i h3
        split at h
        · rename_i hle
          split at h
          · rename_i z hz
            split at h
            · rename_i r hr
              split at h
              · rename_i hcond
                obtain ⟨hsz, hpl, hz0⟩ := hcond
                cases h
                refine AllocOk.of_run fun ρ a w hop => ?_
                have hps := evP_at (ρ := ρ) (P := P) (cv := a.eval) (xs := parts.toList) (vs := ps) (fun p hp v hv => hop.at (x := p.2) (by simp only [ho, Op.operands]; simp; exact ⟨p.1, by simpa using hp⟩) hv) h2
                obtain ⟨r', h7, h8⟩ := fill_at hps (plains_self (plains_range hpl _ hz0)) hr
                refine ⟨_, r', (0, 0), { w with heap := w.heap.push (.cells r' e) }, ?_, ⟨rfl, Io.refl w⟩, .inl rfl, Nat.le_of_eq (by simpa using h8.1), fun i v hv => h8.at i v hv, fun ρ' id hid => row_new hid (Nat.le_refl _) (.inl rfl) (by rw [cellsOf_eq h3, ← h8.1, hsz]; exact Nat.le_refl _)⟩
                unfold execOp
                have hle' : ¬ (len * i.size > 2 ^ 24) := by omega
                have h7' : Instr.fill (fun n => some (n * i.size, i.size)) ((Array.range (len * i.size)).map fun n => z[n % z.size]!) (parts.toList.map fun p => (p.1, a.eval p.2)) = some r' := h7
                simp only [ho, Instr.buildSlice, Sem.run_bind, run_underlying h1, Result.andThen_ok, run_sizeOf' h3]
                rw [if_neg hle']
                by_cases h0 : len * i.size = 0
                · rw [if_pos h0] at hz; cases hz
                  rw [if_pos h0]
                  simp only [Sem.run_bind, Sem.run_pure, Result.andThen_ok, Array.toList_map, h7', newRow, run_newObj]
                · rw [if_neg h0] at hz
                  obtain ⟨zv, q1, q2, q3⟩ := run_zeroC (w := w) hz
                  rw [if_neg h0]
                  simp only [Sem.run_bind, Sem.run_pure, Result.andThen_ok, q1, q2, Array.toList_map, h7', newRow, run_newObj]
              · cases h
            · cases h
          · cases h
        · cases h
      · cases h
    · cases h
  · rename_i t lo co ho
    split at h
    · rename_i e k l k' c h1 hl hc
      split at h
      · rename_i i h3
        split at h
        · rename_i hb
          obtain ⟨b1, b2, b3, b4⟩ := hb
          split at h
          · rename_i z hz
            split at h
            · rename_i hcond
              obtain ⟨hpl, hz0⟩ := hcond
              cases h
              refine AllocOk.of_run fun ρ a w hop => ?_
              have e1 := hop.at (x := lo) (by simp [ho, Op.operands]) hl
              have e2 := hop.at (x := co) (by simp [ho, Op.operands]) hc
              generalize hx1 : a.eval lo = x1 at e1
              generalize hx2 : a.eval co = x2 at e2
              cases e1; cases e2
              have hsl := plains_self (P := P) (ρ := ρ) (plains_range hpl (c.toNat * i.size) hz0)
              refine ⟨_, (Array.range (c.toNat * i.size)).map fun n => z[n % z.size]!, (0, 0), { w with heap := w.heap.push (.cells ((Array.range (c.toNat * i.size)).map fun n => z[n % z.size]!) e) }, ?_, ⟨rfl, Io.refl w⟩, .inl rfl, Nat.le_of_eq (by simp [zcells]), fun j v hv => hsl.at j v (by rw [zcells_eq]; exact hv),
                fun ρ' id hid => row_new hid (by omega) (.inl rfl) (by rw [cellsOf_eq h3]; simp)⟩
              have w1 : IntKind.i64.wrap l = l := by unfold IntKind.wrap; simp [IntKind.bits, IntKind.signed]; omega
              have w2 : IntKind.i64.wrap c = c := by unfold IntKind.wrap; simp [IntKind.bits, IntKind.signed]; omega
              have ht : ((decide (c < 0) || decide ((i.bytes : Int) * c > 2 ^ 48)) || decide (l < 0) || decide (l > c)) = false := by
                simp only [Bool.or_eq_false_iff, decide_eq_false_iff_not]
                refine ⟨⟨⟨by omega, ?_⟩, by omega⟩, by omega⟩
                have : (2 : Int) ^ 48 = 281474976710656 := by decide
                omega
              have hti : (typeInfo e).run P w = .ok i w := by simp [typeInfo, h3]
              unfold execOp
              simp only [ho, hx1, hx2, Instr.makeSlice, Sem.run_bind, run_underlying h1, Result.andThen_ok, asInt, asIntOf, Sem.run_pure, hti, w1, w2]
              rw [if_neg (by rw [ht]; simp)]
              simp only [Sem.run_bind, run_askRoom, Result.andThen_ok, run_sizeOf' h3]
              by_cases h0 : c.toNat * i.size = 0
              · rw [if_pos h0] at hz; cases hz
                rw [if_pos h0]
                simp only [Sem.run_bind, Sem.run_pure, Result.andThen_ok, newRow, run_newObj]
              · rw [if_neg h0] at hz
                obtain ⟨zv, q1, q2, q3⟩ := run_zeroC (w := w) hz
                rw [if_neg h0]
                simp only [Sem.run_bind, Sem.run_pure, Result.andThen_ok, q1, q2, newRow, run_newObj]
            · cases h
          · cases h
        · cases h
      · cases h
    · cases h
  · rename_i src dst x ho
    split at h
    · rename_i e s h1 h2 hx
      split at h
      · rename_i h3
        split at h
        · rename_i h4
          cases h
          refine AllocOk.of_run fun ρ a w hop => ?_
          have e1 := hop.at (x := x) (by simp [ho, Op.operands]) hx
          generalize hx1 : a.eval x = x1 at e1
          cases e1
          let cap := (Question.appendCap s.size 0 e).cut (w.tape w.drawn (.appendCap s.size 0 e))
          have hcap : s.size ≤ cap := by simp only [cap, Question.cut]; omega
          let cs : Array Value := (s.data.map fun b => Value.int .u8 b.toNat) ++ Array.replicate (cap - s.size) (.int .u8 0)
          have hcs : cs.size = cap := by simp only [cs, Array.size_append, Array.size_map, Array.size_replicate]; have : s.data.size = s.size := rfl; omega
          let w1 : World := { w with drawn := w.drawn + 1, heap := w.heap.push (.cells cs e) }
          have hh : w1.heap[w.heap.size]? = some (.cells cs e (0, 0)) := by simp [w1]
          refine ⟨.slice (some ⟨w.heap.size, 0, none⟩) s.size cap, cs, (cs.size, cs.size + 1), w1.freeze ⟨w.heap.size, cs.size, none⟩ 1, ?_, ?_, .inr rfl, ?_, ?_, fun ρ' id hid => row_new hid hcap (.inr rfl) (by rw [h4, hcs]; omega)⟩
          · have hshape : w1.shape? w.heap.size = some (e, cs.size) := by simp [World.shape?, hh]
            have hq : (Question.appendCap s.size 0 e).forced = false := rfl
            unfold execOp
            simp only [ho, hx1, Sem.run_bind, convert, run_underlying h1, run_underlying h2, Result.andThen_ok, run_underlying h3, Conv.stringToBytes, run_choose, hq, Bool.false_eq_true, if_false, newRow, run_newObj, markStringish, run_shape]
            simp only [Sem.run_bind, Sem.run_pure, run_newObj, Result.andThen_ok]
            rw [show ({ heap := w.heap.push (Obj.cells (Array.map (fun b => Value.int IntKind.u8 ↑b.toNat) s.data ++ Array.replicate (Question.cut (Question.appendCap s.size 0 e) (w.tape w.drawn (Question.appendCap s.size 0 e)) - s.size) (Value.int IntKind.u8 0)) e), tape := w.tape, drawn := w.drawn + 1, os := w.os, output := w.output } : World) = w1 from rfl]
            simp only [run_shape, Result.andThen_ok, hshape, run_freeze, Sem.run_pure]
            rfl
          · refine ⟨?_, (show Io w w1 from ⟨rfl, rfl, rfl⟩).trans (Io.freeze _ _ _)⟩
            simp only [World.freeze]
            rw [if_neg (by decide)]
            simp only []
            rw [modify_cells w1.heap hh]
            apply Array.ext
            · simp [w1]
            · intro j hj1 hj2
              simp only [w1] at hj1 ⊢
              rw [Array.getElem_setIfInBounds (hj := by simpa using hj1)]
              simp only [Array.getElem_push]
              by_cases hj : w.heap.size = j
              · subst hj; simp
              · have : j < w.heap.size := by simp at hj1; omega
                simp [hj, this]
          · have : s.data.toList.length = s.size := rfl
            simp only [List.length_map]; omega
          · intro i v hv
            refine ⟨v, ?_, ?_⟩
            · rw [List.getElem?_map] at hv
              have hlt : i < s.data.size := by
                cases hg : s.data.toList[i]? with
                | none => rw [hg] at hv; cases hv
                | some b => simpa using (List.getElem?_eq_some_iff.1 hg).1
              simp only [cs]
              rw [Array.getElem?_append_left (by simpa using hlt)]
              simpa using hv
            · rw [List.getElem?_map] at hv
              cases hg : s.data.toList[i]? with
              | none => rw [hg] at hv; cases hv
              | some b => rw [hg] at hv; cases hv; exact .int _ _
        · cases h
      · cases h
    · cases h
  · cases h
end Go.Proofs.Ythheaehpnleiaaa.AX
