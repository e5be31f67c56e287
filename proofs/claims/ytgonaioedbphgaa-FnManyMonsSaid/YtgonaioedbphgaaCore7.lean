/- Slices of a function's own: made, built, appended to, written. No program is named here. -/
import Derived.Test.YtgonaioedbphgaaCore6
namespace Go.Proofs.Ytgonaioedbphgaa
open Go
section
variable {P : Program} {n : Nat} {w0 : World} {M : Bl} {u : World} {N : Bl} {β : Nat → Nat} {σ σ' : Sy} {a : Act} {w : World} {ops : Array Oper} {Q : Exit → Act → World → Prop} {K' : Act → World → Prop}
theorem St.afterF (S : St P n w0 M u N β σ a w) {w' : World} {Mc : Bl} (hc : Chg Mc w w') (h1 : ∀ b, Mc b → N b) (h2 : ∀ b, Mc b → w0.heap.size ≤ b ∨ M b) :
    St P n w0 M w' (Or N (Iv w.heap.size w'.heap.size)) β σ a w' := by
  have hb : ∀ k, k < σ.bx.length → β k < w.heap.size := fun k hk => by
    obtain ⟨T', h⟩ := S.box k _ (List.getElem?_eq_getElem hk)
    rcases Nat.lt_or_ge (β k) w.heap.size with hl | hl
    · exact hl
    · rw [Array.getElem?_eq_none hl] at h; cases h
  refine ⟨S.df, S.sz, S.env, S.ok, fun k cs hk => ?_, S.inj, S.new, fun b hb' => ?_, S.chg.step hc (fun b hb' hm => (h2 b hm).resolve_left (by omega)), fun b hb' hm => ?_⟩
  · obtain ⟨T, h⟩ := S.box k cs hk
    have hk' : k < σ.bx.length := (List.getElem?_eq_some_iff.1 hk).1
    exact ⟨T, (hc.block _ (hb k hk') (fun f => (S.sep _ (h1 _ f)).2.2 k hk' rfl)).trans h⟩
  · rcases hb' with h | h
    · obtain ⟨e1, e2, e3⟩ := S.sep b h
      exact ⟨Nat.lt_of_lt_of_le e1 hc.size, rfl, e3⟩
    · refine ⟨h.2, rfl, fun k hk e => ?_⟩
      have := hb k hk
      have := h.1
      omega
  · obtain ⟨e1, e2⟩ := S.old b hb' hm
    have hn : ¬ Mc b := fun f => by
      rcases h2 b f with h | h
      · omega
      · exact hm h
    exact ⟨.inl e1, ((hc.block b (S.sep b e1).1 hn).trans (S.sep b e1).2.1).trans e2⟩
theorem St.upF (S : St P n w0 M u N β σ a w) {w' : World} {Mc : Bl} (hc : Chg Mc w w') : ∀ b, N b → ¬ Mc b → Or N (Iv w.heap.size w'.heap.size) b ∧ w'.heap[b]? = u.heap[b]? := fun b hb hm =>
  ⟨.inl hb, (hc.block b (S.sep b hb).1 hm).trans (S.sep b hb).2.1⟩
theorem Ow.upF {α : Type} [GT α] {F Mc : Bl} {x : α} {p : GT.Ptr α} {w' : World} {N' : Bl} (h : Ow w0 M u N F x p) (hd : Disj F Mc) (g : ∀ b, N b → ¬ Mc b → N' b ∧ w'.heap[b]? = u.heap[b]?) : Ow w0 M w' N' F x p :=
  ⟨GT.own_agree h.own (fun b hb _ => (g b (h.sub b hb) (fun m => hd b hb m)).2), fun b hb => (g b (h.sub b hb) (fun m => hd b hb m)).1, h.young⟩
theorem look_put {d : Tmp} {v : Value} (hd : Nat.blt d n = true) : σ.put n (some d) (.v v) = some ⟨(d, .v v) :: σ.env, σ.bx⟩ := by simp [Sy.put, hd]
def sameOpd : Operand → Operand → Bool
  | .tmp s, .tmp r => Nat.beq s r
  | .const (.int .i64 x), .const (.int .i64 y) => decide (x = y)
  | _, _ => false
theorem sameOpd_ok {l c : Operand} (h : sameOpd l c = true) : σ.get l = σ.get c := by
  unfold sameOpd at h
  split at h
  · rw [Nat.eq_of_beq_eq_true h]
  · rw [of_decide_eq_true h]
  · cases h
def makeAc (P : Program) (n : Nat) (ops : Array Oper) (i : Nat) (σ : Sy) : Option (Value × List Value × Nat × Nat × Tmp) :=
  match ops.toList[i]? with
  | some o =>
    match guardv ops σ o, o.op, o.dst with
    | some true, .makeSlice t l c, some d =>
      match P.underlying t, σ.get l with
      | some (.slice e), some (.v (.int .i64 m)) =>
        match P.info? e with
        | some i =>
          match i.zero with
          | some z => bif Nat.blt d n && sameOpd l c then some (.int .i64 m, z.cells.toList, i.bytes, i.size, d) else none
          | _ => none
        | none => none
      | _, _ => none
    | _, _, _ => none
  | none => none
theorem zeros_cells {α : Type} [GT α] (zs : List Value) (hz : zs.length = GT.width α) (m : Nat) (b : Nat) (T : TypeId) (w : World) (hw : w.heap[b]? = some (.cells ((Array.range (m * GT.width α)).map (zs.toArray[· % zs.toArray.size]!)) T (0, 0))) (i : Nat) (hi : i < m) :
    CellsAt w b (0 + i * GT.width α) zs := by
  intro j v hj
  have hjl : j < GT.width α := by rw [← hz]; exact (List.getElem?_eq_some_iff.1 hj).1
  have hlt : i * GT.width α + j < m * GT.width α := by
    have := Nat.mul_le_mul_right (GT.width α) (show i + 1 ≤ m from hi)
    rw [Nat.add_mul] at this; omega
  simp only [World.cell?, hw, Nat.zero_add, Option.isSome_none, Bool.false_eq_true, if_false]
  rw [Array.getElem?_map, Array.getElem?_range]
  simp only [hlt, if_true, Option.map_some, Option.some.injEq]
  have hmod : (i * GT.width α + j) % GT.width α = j := by rw [Nat.mul_comm, Nat.mul_add_mod]; exact Nat.mod_eq_of_lt hjl
  simp only [List.size_toArray, hz, hmod]
  simp [hj]
theorem run_make {t e : TypeId} {info : TypeInfo} {z : Value} {m : Nat} (ht : P.underlying t = some (.slice e)) (hi : P.info? e = some info) (hz : info.zero = some z) (hb : info.bytes * m ≤ 281474976710656) (hm : m ≤ 9223372036854775807) (w : World)
    (hs : 0 < info.size) (hzl : z.cells.size = info.size) :
    (Instr.makeSlice t (I m) (I m)).run P w = .ok (.slice (some ⟨w.heap.size, 0, none⟩) m m) { w with heap := w.heap.push (.cells ((Array.range (m * info.size)).map (z.cells[· % z.cells.size]!)) e) } := by
  unfold Instr.makeSlice
  have hw : IntKind.i64.wrap (m : Int) = m := wrap_in ⟨by omega, by omega⟩
  have h1 : ¬ ((m : Int) < 0) := by omega
  have h2 : ¬ ((info.bytes : Int) * m > 2 ^ 48) := by
    have : ((info.bytes * m : Nat) : Int) ≤ (281474976710656 : Nat) := Int.ofNat_le.2 hb
    simp only [Int.natCast_mul] at this
    omega
  have hzero : (zeroValue e).run P w = .ok z w := by simp [zeroValue, typeInfo, hi, hz]
  simp only [Sem.run_bind, run_underlying ht, Result.andThen_ok, asInt, asIntOf, Sem.run_pure, typeInfo, run_program, hi, hw, h1, h2, decide_false, Bool.or_self, Bool.false_eq_true, Int.lt_irrefl, gt_iff_lt, if_false, Int.toNat_natCast]
  have hroom : ∀ k : Nat, (askRoom k).run P w = .ok () w := fun k => by
    unfold askRoom; split <;> rfl
  simp only [hroom, Result.andThen_ok, sizeOf, typeInfo, Sem.run_bind, run_program, hi, Sem.run_pure]
  by_cases h0 : m * info.size = 0
  · have : m = 0 := by
      rcases Nat.mul_eq_zero.1 h0 with h | h
      · exact h
      · omega
    subst this
    have hr : Array.range 0 = #[] := rfl
    simp [newRow, hr]
  · simp only [h0, if_false, Sem.run_bind, hzero, Result.andThen_ok, Sem.run_pure, newRow, run_newObj]
theorem St.make {α : Type} [GT α] (S : St P n w0 M u N β σ a w) {i : Nat} {m by' : Nat} {d : Tmp} (hop : makeAc P n ops i σ = some (I m, GT.cells (GT.dflt : α) GT.pdflt, by', GT.width α, d)) (hb : by' * m ≤ 281474976710656) (hm : m ≤ KK)
    (K : ∀ a' w' N' q F, St P n w0 M w' N' β ⟨(d, .v (slv m q.1)) :: σ.env, σ.bx⟩ a' w' → (∀ b, N b → N' b ∧ w'.heap[b]? = u.heap[b]?) →
      Ow w0 M w' N' F (List.replicate m (GT.dflt : α)) q → Disj N F → K' a' w') : wpOp P ops Q i K' a w := by
  unfold makeAc at hop
  split at hop
  · rename_i o ho
    have ho' : ops[i]? = some o := by simpa using ho
    split at hop
    · rename_i t l c d' hg hopq hd
      split at hop
      · rename_i e m' hu hx
        split at hop
        · rename_i info hinfo
          split at hop
          · rename_i z hz
            cases hbb : (Nat.blt d' n && sameOpd l c) with
            | false => rw [hbb] at hop; cases hop
            | true =>
                  rw [hbb] at hop
                  simp only [Bool.and_eq_true] at hbb
                  obtain ⟨hdn, hso⟩ := hbb
                  have hy := hx
                  rw [sameOpd_ok (σ := σ) hso] at hy
                  simp only [cond_true, Option.some.injEq, Prod.mk.injEq, Value.int.injEq, true_and] at hop
                  obtain ⟨rfl, hzc, rfl, hsz, rfl⟩ := hop
                  have hzl : z.cells.size = info.size := by
                    have := GT.len (GT.dflt : α) GT.pdflt
                    rw [← hzc] at this
                    rw [hsz]; simpa using this
                  have hrun := run_make (P := P) hu hinfo hz hb (by unfold KK at hm; omega) w (by rw [hsz]; exact GT.wpos) hzl
                  refine OP.step ho' (guard_ok S hg) ?_
                  have hex : (execOp a.eval o).run P w = .ok (.value (.slice (some ⟨w.heap.size, 0, none⟩) m m)) { w with heap := w.heap.push (.cells ((Array.range (m * info.size)).map (z.cells[· % z.cells.size]!)) e) } := by
                    unfold execOp
                    simp only [hopq, S.get hx, S.get hy]
                    show (do pure (.value (← Instr.makeSlice t (I m) (I m))) : Sem Next).run P w = _
                    rw [Sem.run_bind, hrun]
                    rfl
                  unfold Oper.wp
                  rw [hex]
                  simp only [Oper.upon, hd]
                  have hch : Chg NoB w { w with heap := w.heap.push (.cells ((Array.range (m * info.size)).map (z.cells[· % z.cells.size]!)) e) } := Chg.push NoB w _
                  have hrow : ({ w with heap := w.heap.push (.cells ((Array.range (m * info.size)).map (z.cells[· % z.cells.size]!)) e) } : World).heap[w.heap.size]? = some (.cells ((Array.range (m * info.size)).map (z.cells[· % z.cells.size]!)) e) := by simp
                  refine K _ _ _ (⟨false, w.heap.size, 0, m, none⟩, fun _ => GT.pdflt) (Iv w.heap.size _) (S.after hdn hch) (S.up hch) ⟨?_, fun _ h => .inr h, fun _ h => .inl (Nat.le_trans S.chg.size h.1)⟩ (Disj.fresh S _ fun _ h => h)
                  have hel : ∀ k, k < m → el (List.replicate m (GT.dflt : α)) k = GT.dflt := fun k hk => by simp [el, hk]
                  refine ⟨by simpa using hm, by simp, by unfold KK at hm; simp; omega, fun h => (by cases h), fun _ => ⟨⟨Nat.le_refl _, by simp⟩, _, e, hrow, by simp [hsz]⟩, fun k hk => ?_, fun _ => NoB, fun k hk => ?_, fun _ _ b hb' => hb'.elim, fun _ _ _ _ _ b hb' => hb'.elim⟩
                  · simp only [List.length_replicate] at hk
                    rw [hel k hk]
                    have e1 : z.cells = (GT.cells (GT.dflt : α) GT.pdflt).toArray := by rw [← hzc]
                    refine zeros_cells (α := α) _ (GT.len _ _) m w.heap.size e _ ?_ k hk
                    rw [hrow, e1, hsz]
                  · simp only [List.length_replicate] at hk
                    rw [hel k hk]
                    exact GT.own_dflt _ _ _
          · cases hop
        · cases hop
      · cases hop
    · cases hop
  · cases hop
end
end Go.Proofs.Ytgonaioedbphgaa
