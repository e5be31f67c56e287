/- A store into an element of a slice of the function's own. No program is named here. -/
import Derived.Test.YtgonaioedbphgaaCore7
namespace Go.Proofs.Ytgonaioedbphgaa
open Go
section
variable {P : Program} {n : Nat} {w0 : World} {M : Bl} {u : World} {N : Bl} {β : Nat → Nat} {σ σ' : Sy} {a : Act} {w : World} {ops : Array Oper} {Q : Exit → Act → World → Prop} {K' : Act → World → Prop}
def storeAc (ops : Array Oper) (i : Nat) (σ : Sy) : Option (TypeId × Value × Value) :=
  match ops.toList[i]? with
  | some o =>
    match guardv ops σ o, o.op, o.dst with
    | some true, .store t x y, none =>
      match σ.get x, σ.get y with
      | some (.v a), some (.v v) => some (t, a, v)
      | _, _ => none
    | _, _, _ => none
  | none => none
theorem storeAc_run (S : St P n w0 M u N β σ a w) {i : Nat} {t : TypeId} {b o : Nat} {v : Value} {cs : Array Value} {T : TypeId} (hop : storeAc ops i σ = some (t, pt b o, v)) (hs : tsize P t = some v.cells.toList.length) (hpl : v.cells.toList.all (·.oneCell') = true)
    (hb : w.heap[b]? = some (.cells cs T (0, 0))) (hle : o + v.cells.toList.length ≤ cs.size)
    (h : K' a (w.setRow b (cs.toList.take o ++ v.cells.toList ++ cs.toList.drop (o + v.cells.toList.length)).toArray)) : wpOp P ops Q i K' a w := by
  unfold storeAc at hop
  split at hop
  · rename_i oo ho
    have ho' : ops[i]? = some oo := by simpa using ho
    split at hop
    · rename_i t' x y hg hopq hd
      split at hop
      · rename_i x' y' hx hy
        simp only [Option.some.injEq, Prod.mk.injEq] at hop
        obtain ⟨rfl, rfl, rfl⟩ := hop
        refine OP.step ho' (guard_ok S hg) ?_
        have hrun := run_storeCells_at (P := P) b o T y'.cells.toList 0 cs w hb (by simp at hle ⊢; exact hle) (fun z hz => List.all_eq_true.1 hpl z hz)
        simp only [Nat.add_zero] at hrun
        have hex : (execOp a.eval oo).run P w = .ok .skip (w.setRow b (cs.toList.take o ++ y'.cells.toList ++ cs.toList.drop (o + y'.cells.toList.length)).toArray) := by
          unfold execOp
          simp only [hopq, S.get hx, S.get hy]
          show (do Instr.storeAt t' (pt b o) y'; pure .skip : Sem Next).run P w = _
          rw [Sem.run_bind]
          simp only [Instr.storeAt, Instr.sureAddr, Sem.run_bind, Sem.run_pure, Result.andThen_ok, storeVar, run_size hs]
          rw [if_neg (by simp), hrun]
          rfl
        unfold Oper.wp
        rw [hex]
        simp only [Oper.upon, hd]
        exact h
      · cases hop
    · cases hop
  · cases hop
theorem splice_get (l vs : List Value) (o i : Nat) (h : o + vs.length ≤ l.length) : (l.take o ++ vs ++ l.drop (o + vs.length))[i]? = if i < o then l[i]? else if i < o + vs.length then vs[i - o]? else l[i]? := by
  have hl : (l.take o).length = o := by simp; omega
  by_cases h1 : i < o
  · rw [if_pos h1, List.append_assoc, List.getElem?_append_left (by omega), List.getElem?_take, if_pos h1]
  · rw [if_neg h1]
    by_cases h2 : i < o + vs.length
    · rw [if_pos h2, List.append_assoc, List.getElem?_append_right (by omega), hl, List.getElem?_append_left (by omega)]
    · rw [if_neg h2, List.append_assoc, List.getElem?_append_right (by omega), hl, List.getElem?_append_right (by omega), List.getElem?_drop]
      congr 1
      omega
theorem el_set {α : Type} [GT α] (xs : List α) (k i : Nat) (y : α) (hk : k < xs.length) : el (xs.set k y) i = if i = k then y else el xs i := by
  unfold el
  simp only [List.getD_eq_getElem?_getD, List.getElem?_set]
  by_cases h : i = k
  · subst h; simp [hk]
  · rw [if_neg (fun e => h e.symm), if_neg h]
theorem LOwn.nonil {α : Type} [GT α] {K : Nat} {F : Bl} {w : World} {xs : List α} {p : LP α} (h : LOwn K F w xs p) (hl : 0 < p.1.cap) : p.1.nil = false := by
  cases hn : p.1.nil with
  | false => rfl
  | true => have := h.null hn; omega
theorem St.setElE {α : Type} [GT α] {xs : List α} {p : LP α} {F Fy : Bl} (S : St P n w0 M u N β σ a w) (hx : Ow w0 M u N F xs p) {i k j off : Nat} {t : TypeId} {v : Value} {y : α} {q : GT.Ptr α} (hop : storeAc ops i σ = some (t, pt p.1.b off, v))
    (hoff : off = p.1.off + k * GT.width α + j) (hk : k < xs.length) (hs : tsize P t = some v.cells.toList.length) (hpl : v.cells.toList.all (·.oneCell') = true) (hjw : j + v.cells.toList.length ≤ GT.width α)
    (hc : GT.cells y q = (GT.cells (el xs k) (p.2 k)).take j ++ v.cells.toList ++ (GT.cells (el xs k) (p.2 k)).drop (j + v.cells.toList.length))
    (hy : ∀ G, GT.own KK G u (el xs k) (p.2 k) → (∀ b, G b → F b) → ∃ G', GT.own KK G' u y q ∧ ∀ b, G' b → G b ∨ Fy b) (hd : Disj F Fy) (hyN : ∀ b, Fy b → N b) (hyY : ∀ b, Fy b → w0.heap.size ≤ b ∨ M b)
    (K : ∀ w' N' F', St P n w0 M w' N' β σ a w' → (∀ b, N b → ¬ F b → N' b ∧ w'.heap[b]? = u.heap[b]?) →
      Ow w0 M w' N' F' (xs.set k y) ((p.1, fun i => if i = k then q else p.2 i) : LP α) → (∀ G : Bl, Disj G F → Disj G Fy → (∀ b, G b → N b) → Disj G F') → (∀ b, F' b → F b ∨ Fy b) → (∀ b, N b → N' b) → K' a w') : wpOp P ops Q i K' a w := by
  have ho : LOwn KK F u xs p := hx.own
  have hcap := ho.cap
  have hnn : p.1.nil = false := ho.nonil (by omega)
  obtain ⟨hF, cs, T, hrow, hsz⟩ := ho.row hnn
  obtain ⟨hlt, hwu, _⟩ := S.sep _ (hx.sub _ hF)
  have hwrow : w.heap[p.1.b]? = some (.cells cs T (0, 0)) := hwu.trans hrow
  have hmul : (k + 1) * GT.width α ≤ p.1.cap * GT.width α := Nat.mul_le_mul_right _ (by omega)
  rw [Nat.add_mul, Nat.one_mul] at hmul
  have hle : off + v.cells.toList.length ≤ cs.size := by omega
  refine storeAc_run S hop hs hpl hwrow hle ?_
  have hnew := setRow_heap w p.1.b cs (cs.toList.take off ++ v.cells.toList ++ cs.toList.drop (off + v.cells.toList.length)).toArray T (0, 0) hwrow
  have hoth : ∀ b, b ≠ p.1.b → (w.setRow p.1.b (cs.toList.take off ++ v.cells.toList ++ cs.toList.drop (off + v.cells.toList.length)).toArray).heap[b]? = w.heap[b]? := fun b hb => by
    simp only [World.setRow, Array.getElem?_modify]
    rw [if_neg (fun e => hb e.symm)]
  have hwsz : (w.setRow p.1.b (cs.toList.take off ++ v.cells.toList ++ cs.toList.drop (off + v.cells.toList.length)).toArray).heap.size = w.heap.size := by simp [World.setRow]
  generalize hw' : w.setRow p.1.b (cs.toList.take off ++ v.cells.toList ++ cs.toList.drop (off + v.cells.toList.length)).toArray = w' at *
  have hch : Chg F w w' := by
    subst hw'
    exact ⟨rfl, rfl, rfl, by rw [hwsz]; exact Nat.le_refl _, fun b _ hn => hoth b (fun e => hn (e ▸ hF))⟩
  have hcell : ∀ pos, w'.cell? ⟨p.1.b, pos, none⟩ = if pos < off then cs[pos]? else if pos < off + v.cells.toList.length then v.cells.toList[pos - off]? else cs[pos]? := fun pos => by
    simp only [World.cell?, hnew, Option.isSome_none, Bool.false_eq_true, if_false]
    have := splice_get cs.toList v.cells.toList off pos (by simpa using hle)
    simpa using this
  have hold : ∀ pos x, u.cell? ⟨p.1.b, pos, none⟩ = some x → cs[pos]? = some x := fun pos x h => by
    simpa [World.cell?, hrow] using h
  refine K w' _ (Or F Fy) (S.afterF hch hx.sub hx.young) (S.upF hch) ⟨?_, fun b hb => .inl (hb.elim (hx.sub b) (hyN b)), fun b hb => hb.elim (hx.young b) (hyY b)⟩ (fun G g1 g2 _ b hb h => h.elim (g1 b hb) (g2 b hb)) (fun _ h => h) (fun _ h => .inl h)
  obtain ⟨G, g1, g2, g3⟩ := ho.el
  obtain ⟨G', gy, gs⟩ := hy (G k) (g1 k hk) (fun b hb => (g2 k hk b hb).1)
  have hag : ∀ b, F b → b ≠ p.1.b → w'.heap[b]? = u.heap[b]? := fun b hb hne => (hoth b hne).trans (S.sep b (hx.sub b hb)).2.1
  have hagy : ∀ b, Fy b → w'.heap[b]? = u.heap[b]? := fun b hb => (hoth b (fun e => hd _ (e ▸ hF) hb)).trans (S.sep b (hyN b hb)).2.1
  refine ⟨by rw [List.length_set]; exact ho.le, by rw [List.length_set]; exact ho.cap, ho.capm, ho.null, fun _ => ⟨.inl hF, _, T, hnew, ?_⟩, fun i hi => ?_, fun i => if i = k then G' else G i, fun i hi => ?_, fun i hi b hb => ?_, fun i i' hi hi' hne => ?_⟩
  · have : (cs.toList.take off ++ v.cells.toList ++ cs.toList.drop (off + v.cells.toList.length)).toArray.size = cs.size := by simp at hle ⊢; omega
    rw [this]; exact hsz
  · rw [List.length_set] at hi
    rw [el_set _ _ _ _ hk]
    by_cases e : i = k
    · subst e
      simp only [if_true]
      intro z x hz
      have hzl : z < GT.width α := by
        have := (List.getElem?_eq_some_iff.1 hz).1
        rwa [GT.len] at this
      rw [hc, splice_get _ _ _ _ (by rw [GT.len]; exact hjw)] at hz
      rw [hcell]
      by_cases z1 : z < j
      · rw [if_pos z1] at hz
        rw [if_pos (by omega)]
        exact hold _ _ (ho.cell i hk z x hz)
      · rw [if_neg z1] at hz
        rw [if_neg (by omega)]
        by_cases z2 : z < j + v.cells.toList.length
        · rw [if_pos z2] at hz
          rw [if_pos (by omega), ← hz]
          congr 1
          omega
        · rw [if_neg z2] at hz
          rw [if_neg (by omega)]
          exact hold _ _ (ho.cell i hk z x hz)
    · simp only [e, if_false]
      intro z x hz
      have hzl : z < GT.width α := by
        have := (List.getElem?_eq_some_iff.1 hz).1
        rwa [GT.len] at this
      have h1 := hold _ _ (ho.cell i hi z x hz)
      rw [hcell]
      rcases Nat.lt_or_gt_of_ne e with h | h
      · have := Nat.mul_le_mul_right (GT.width α) (show i + 1 ≤ k from h)
        rw [Nat.add_mul, Nat.one_mul] at this
        rw [if_pos (by omega)]
        exact h1
      · have := Nat.mul_le_mul_right (GT.width α) (show k + 1 ≤ i from h)
        rw [Nat.add_mul, Nat.one_mul] at this
        rw [if_neg (by omega), if_neg (by omega)]
        exact h1
  · rw [List.length_set] at hi
    rw [el_set _ _ _ _ hk]
    by_cases e : i = k
    · subst e
      simp only [if_true]
      exact GT.own_agree gy fun b hb _ => by
        rcases gs b hb with h | h
        · obtain ⟨h1, h2⟩ := g2 i hk b h
          exact hag b h1 h2
        · exact hagy b h
    · simp only [e, if_false]
      exact GT.own_agree (g1 i hi) fun b hb _ => hag b (g2 i hi b hb).1 (g2 i hi b hb).2
  · rw [List.length_set] at hi
    by_cases e : i = k
    · subst e
      simp only [if_true] at hb
      rcases gs b hb with h | h
      · exact ⟨.inl (g2 i hk b h).1, (g2 i hk b h).2⟩
      · exact ⟨.inr h, fun e => hd _ (e ▸ hF) h⟩
    · simp only [e, if_false] at hb
      exact ⟨.inl (g2 i hi b hb).1, (g2 i hi b hb).2⟩
  · rw [List.length_set] at hi hi'
    intro b hb hb'
    by_cases e : i = k
    · by_cases e' : i' = k
      · exact hne (e.trans e'.symm)
      · simp only [e, if_true] at hb
        simp only [e', if_false] at hb'
        rcases gs b hb with h | h
        · exact g3 k i' hk hi' (fun q => e' q.symm) b h hb'
        · exact hd b (g2 i' hi' b hb').1 h
    · by_cases e' : i' = k
      · simp only [e, if_false] at hb
        simp only [e', if_true] at hb'
        rcases gs b hb' with h | h
        · exact g3 i k hi hk e b hb h
        · exact hd b (g2 i hi b hb).1 h
      · simp only [e, e', if_false] at hb hb'
        exact g3 i i' hi hi' hne b hb hb'
theorem St.setEl {α : Type} [GT α] {xs : List α} {p : LP α} {F Fy : Bl} (S : St P n w0 M u N β σ a w) (hx : Ow w0 M u N F xs p) {i k j off : Nat} {t : TypeId} {v : Value} {y : α} {q : GT.Ptr α} (hop : storeAc ops i σ = some (t, pt p.1.b off, v))
    (hoff : off = p.1.off + k * GT.width α + j) (hk : k < xs.length) (hs : tsize P t = some v.cells.toList.length) (hpl : v.cells.toList.all (·.oneCell') = true) (hjw : j + v.cells.toList.length ≤ GT.width α)
    (hc : GT.cells y q = (GT.cells (el xs k) (p.2 k)).take j ++ v.cells.toList ++ (GT.cells (el xs k) (p.2 k)).drop (j + v.cells.toList.length))
    (hy : ∀ G, GT.own KK G u (el xs k) (p.2 k) → (∀ b, G b → F b) → ∃ G', GT.own KK G' u y q ∧ ∀ b, G' b → G b ∨ Fy b) (hd : Disj F Fy) (hyN : ∀ b, Fy b → N b) (hyY : ∀ b, Fy b → w0.heap.size ≤ b ∨ M b)
    (K : ∀ w' N' F' p2, St P n w0 M w' N' β σ a w' → (∀ b, N b → ¬ F b → N' b ∧ w'.heap[b]? = u.heap[b]?) →
      Ow w0 M w' N' F' (xs.set k y) (p.1, p2) → (∀ G : Bl, Disj G F → Disj G Fy → (∀ b, G b → N b) → Disj G F') → (∀ b, F' b → F b ∨ Fy b) → (∀ b, N b → N' b) → K' a w') : wpOp P ops Q i K' a w :=
  S.setElE hx hop hoff hk hs hpl hjw hc hy hd hyN hyY fun w' N' F' => K w' N' F' _
theorem St.sF {α : Type} [GT α] {xs : List α} {p : LP α} {F : Bl} (S : St P n w0 M u N β σ a w) (hx : Ow w0 M u N F xs p) {i k j off : Nat} {t : TypeId} {v : Value} {y : α} {q : GT.Ptr α}
    (hy : ∀ G, GT.own KK G u (el xs k) (p.2 k) → (∀ b, G b → F b) → ∃ G', GT.own KK G' u y q ∧ ∀ b, G' b → G b ∨ NoB b)
    (K : ∀ w' N' F' p2, St P n w0 M w' N' β σ a w' → (∀ b, N b → ¬ F b → N' b ∧ w'.heap[b]? = u.heap[b]?) →
      Ow w0 M w' N' F' (xs.set k y) (p.1, p2) → (∀ G : Bl, Disj G F → Disj G NoB → (∀ b, G b → N b) → Disj G F') → (∀ b, F' b → F b ∨ NoB b) → (∀ b, N b → N' b) → K' a w')
    (hop : storeAc ops i σ = some (t, pt p.1.b off, v) := by kernel_rfl) (hoff : off = p.1.off + k * GT.width α + j := by kernel_rfl) (hk : k < xs.length := by omega) (hs : tsize P t = some v.cells.toList.length := by kernel_rfl) (hpl : v.cells.toList.all (·.oneCell') = true := by kernel_rfl) (hjw : Nat.ble (j + v.cells.toList.length) (GT.width α) = true := by kernel_rfl)
    (hc : GT.cells y q = (GT.cells (el xs k) (p.2 k)).take j ++ v.cells.toList ++ (GT.cells (el xs k) (p.2 k)).drop (j + v.cells.toList.length) := by kernel_rfl) : wpOp P ops Q i K' a w :=
  S.setEl hx hop hoff hk hs hpl (Nat.le_of_ble_eq_true hjw) hc hy (fun _ _ h => False.elim h) (fun _ h => False.elim h) (fun _ h => False.elim h) K
theorem St.sV {α : Type} [GT α] {xs : List α} {p : LP α} {F Fy : Bl} (S : St P n w0 M u N β σ a w) (hx : Ow w0 M u N F xs p) {i k off : Nat} {t : TypeId} {y : α} {q : GT.Ptr α} (hy : Ow w0 M u N Fy y q) (hd : Disj F Fy)
    (K : ∀ w' N' F' p2, St P n w0 M w' N' β σ a w' → (∀ b, N b → ¬ F b → N' b ∧ w'.heap[b]? = u.heap[b]?) →
      Ow w0 M w' N' F' (xs.set k y) (p.1, p2) → (∀ G : Bl, Disj G F → Disj G Fy → (∀ b, G b → N b) → Disj G F') → (∀ b, F' b → F b ∨ Fy b) → (∀ b, N b → N' b) → K' a w')
    (hop : storeAc ops i σ = some (t, pt p.1.b off, GT.val y q) := by kernel_rfl) (hoff : off = p.1.off + k * GT.width α + 0 := by kernel_rfl) (hk : k < xs.length := by omega) (hs : tsize P t = some (GT.val y q).cells.toList.length := by kernel_rfl) (hpl : (GT.val y q).cells.toList.all (·.oneCell') = true := by kernel_rfl) (hjw : Nat.ble (0 + (GT.val y q).cells.toList.length) (GT.width α) = true := by kernel_rfl)
    (hc : GT.cells y q = (GT.cells (el xs k) (p.2 k)).take 0 ++ (GT.val y q).cells.toList ++ (GT.cells (el xs k) (p.2 k)).drop (0 + (GT.val y q).cells.toList.length) := by kernel_rfl) : wpOp P ops Q i K' a w :=
  S.setEl hx hop hoff hk hs hpl (Nat.le_of_ble_eq_true hjw) hc (fun _ _ _ => ⟨Fy, hy.own, fun _ h => .inr h⟩) hd hy.sub hy.young K
end
end Go.Proofs.Ytgonaioedbphgaa
