/- Literals of several elements; bytes, and the cursor that draws off them. No program is named here. -/
import Derived.Test.YtgonaioedbphgaaRun2
import Derived.Test.YtgonaioedbphgaaOpen
namespace Go.Proofs.Ytgonaioedbphgaa
open Go
set_option linter.unusedVariables false
section
variable {P : Program} {n : Nat} {w0 : World} {M : Bl} {u : World} {N : Bl} {β : Nat → Nat} {a : Act} {w : World} {Q : Exit → Act → World → Prop}
theorem St.BF {ρ : Rs} (S : St P n w0 M u N β ρ.σ a w) {α : Type} [GT α] (xs : List α) (q0 : GT.Ptr α) {d : Tmp} (hfl : ∀ x, x ∈ xs → ∀ w', GT.own KK NoB w' x q0) (hl : xs.length ≤ KK)
    (K : ∀ a' w' N' r F, St P n w0 M w' N' β (ρ.put d (slv xs.length r.1)).σ a' w' → (∀ b, N b → N' b ∧ w'.heap[b]? = u.heap[b]?) → Ow w0 M w' N' F xs r → Disj N F → Gl P Q (ρ.put d (slv xs.length r.1)) a' w')
    (hop : bsAc P n ρ.cf.opsOf ρ.cf.idx ρ.σ = some (flatCells xs (fun _ => q0) xs.length, xs.length, d) := by kernel_rfl) (hB : ρ.cf.isOp = true := by kernel_rfl) : Gl P Q ρ a w := by
  refine ⟨lo (S.bs hop fun a' w' T S' up hrow hsz => ?_) hB⟩
  have hKm : xs.length ≤ 9223372036854775807 := Nat.le_trans hl (by unfold KK; decide)
  refine (K a' w' _ ((⟨false, w.heap.size, 0, xs.length, none⟩, fun _ => q0) : LP α) (Iv w.heap.size w'.heap.size) S' up ⟨?_, fun b h => .inr h, fun b h => .inl (Nat.le_trans S.chg.size h.1)⟩ (fun b h1 h2 => Disj.fresh S w' (fun _ h => h) b h1 h2)).ok
  refine (⟨hl, Nat.le_refl _, hKm, fun h => (by cases h), fun _ => ⟨⟨Nat.le_refl _, (by show w.heap.size < w'.heap.size; omega)⟩, _, T, hrow, by simp [flatCells_len]⟩, fun i hi => ?_, fun _ => NoB, fun i hi => ?_, fun i hi b hb => False.elim hb, fun i j hi hj hne b hb => False.elim hb⟩ : LOwn KK (Iv w.heap.size w'.heap.size) w' xs ((⟨false, w.heap.size, 0, xs.length, none⟩, fun _ => q0) : LP α))
  · intro j v hj
    have hjl : j < GT.width α := by
      have := (List.getElem?_eq_some_iff.1 hj).1
      rwa [GT.len] at this
    simp only [World.cell?, hrow, Option.isSome_none, Bool.false_eq_true, if_false, Nat.zero_add]
    rw [List.getElem?_toArray, flatCells_get xs (fun _ => q0) xs.length i j hi hjl]
    exact hj
  · exact hfl _ (by unfold el; rw [List.getD_eq_getElem?_getD, List.getElem?_eq_getElem hi]; exact List.getElem_mem hi) w'
end
structure TByte where
  v : Int
instance : GT TByte where
  Ptr := Unit
  dflt := ⟨0⟩
  pdflt := ()
  width := 1
  agg := false
  cells x _ := [.int .u8 x.v]
  rd _ _ _ x _ := 0 ≤ x.v ∧ x.v ≤ 255
  own _ _ _ x _ := 0 ≤ x.v ∧ x.v ≤ 255
  wpos := Nat.one_pos
  len _ _ := rfl
  one _ := rfl
  plain _ _ v h := by simp at h; subst h; rfl
  rd_mono h _ _ := h
  rd_agree h _ := h
  rd_lt h := h
  own_mono h _ _ := h
  own_agree h _ := h
  own_lt h := h
  own_rd h := h
  own_dflt _ _ _ := ⟨by decide, by decide⟩
theorem cutB {F : Bl} {w : World} {c : List TByte} {p : LP TByte} (h : GT.rd KR F w c p) (hl : c.length ≤ 1048576) : GT.rd KK F w c p :=
  (⟨Nat.le_trans hl (by unfold KK; decide), LRd.cap h, LRd.at_ h, LRd.cell h, fun i hi => LRd.el h i hi⟩ : LRd KK F w c p)
structure TCur where
  n : Nat
  p : SP
  i : Int
  h : Int
instance : GT TCur where
  Ptr := Unit
  dflt := ⟨0, ⟨true, 0, 0, 0, none⟩, 0, 0⟩
  pdflt := ()
  width := 3
  agg := true
  cells x _ := [slv x.n x.p, I x.i, I x.h]
  rd _ _ _ x _ := In64 x.i ∧ In64 x.h
  own _ _ _ x _ := In64 x.i ∧ In64 x.h
  wpos := by decide
  len _ _ := rfl
  one h := by cases h
  plain _ _ v h := by simp only [List.mem_cons, List.not_mem_nil, or_false] at h; rcases h with rfl | rfl | rfl <;> rfl
  rd_mono h _ _ := h
  rd_agree h _ := h
  rd_lt h := h
  own_mono h _ _ := h
  own_agree h _ := h
  own_lt h := h
  own_rd h := h
  own_dflt _ _ _ := ⟨⟨by decide, by decide⟩, by decide, by decide⟩
theorem opens_byte {P : Program} {t : TypeId} (ht : P.underlying t = some (.int .u8)) (hc : P.cellsOf t = 1) : Opens P t TByte := by
  refine ⟨hc, fun H enc w fuel cs x h => ?_⟩
  cases fuel with
  | zero => simp [DataW.trod] at h
  | succ n =>
    unfold DataW.trod at h
    rw [ht] at h
    split at h <;> simp_all
    rename_i k k' n' hk
    subst hk
    obtain ⟨⟨rfl, hw⟩, _⟩ := h
    exact ⟨⟨n'⟩, (), rfl, bounds_u8 hw⟩
theorem St.KE {P : Program} {n : Nat} {w0 : World} {M : Bl} {u : World} {N : Bl} {β : Nat → Nat} {a : Act} {w : World} {Q : Exit → Act → World → Prop} {ρ : Rs} {α : Type} [GT α] {φ : α → Prop} (S : St P n w0 M u N β ρ.σ a w) {f : FuncId} {vals : List Value} {d : Tmp} (hc : Calls P f vals.toArray w (fun e w' => ∃ r, φ r ∧ Ret1 NoB w r e w'))
    (K : ∀ a' w' N' r q F, φ r → St P n w0 M w' N' β (ρ.put d (GT.val r q)).σ a' w' → (∀ b, N b → N' b ∧ w'.heap[b]? = u.heap[b]?) → Ow w0 M w' N' F r q → Disj N F → Gl P Q (ρ.put d (GT.val r q)) a' w')
    (hcall : callAc P n ρ.cf.opsOf ρ.cf.idx ρ.σ = some (f, vals, d) := by kernel_rfl) (hd : Nat.blt d n = true := by kernel_rfl) (hB : ρ.cf.isOp = true := by kernel_rfl) : Gl P Q ρ a w :=
  ⟨lo (S.call hcall hc fun _ w' ⟨r, hr, q, he, hch, ho⟩ => ⟨_, he, (K _ w' _ r q _ hr (S.after hd hch) (S.up hch) ⟨ho, fun _ h => .inr h, fun _ h => .inl (Nat.le_trans S.chg.size h.1)⟩ (Disj.fresh S w' fun _ h => h)).ok⟩) hB⟩
end Go.Proofs.Ytgonaioedbphgaa
