/- Functions with captured variables; calls that hand back what they were given to own. No program is named here. -/
import Derived.Test.YtgonaioedbphgaaShort
namespace Go.Proofs.Ytgonaioedbphgaa
open Go
def cap1 {α : Type} [GT α] (b : Nat) (p : GT.Ptr α) : LP α := (⟨false, b, 0, 1, none⟩, fun _ => p)
def frzS (k b : Nat) : SV → SV
  | .p j o => bif Nat.beq j k then .v (pt b o) else .p (bif Nat.blt k j then j - 1 else j) o
  | .v x => .v x
def frzE (k b : Nat) : Env → Env
  | [] => []
  | (t, s) :: r => (t, frzS k b s) :: frzE k b r
theorem look_frzE {k b t : Nat} : ∀ (e : Env), look (frzE k b e) t = (look e t).map (frzS k b)
  | [] => rfl
  | (s, x) :: r => by
    simp only [frzE, look_cons]
    split
    · rfl
    · exact look_frzE r
def Sy.frz (σ : Sy) (k b : Nat) : Sy := ⟨frzE k b σ.env, σ.bx.eraseIdx k⟩
section
variable {P : Program} {n : Nat} {w0 : World} {M : Bl} {u : World} {N : Bl} {β : Nat → Nat} {σ : Sy} {a : Act} {w : World} {ops : Array Oper} {K' : Act → World → Prop} {Q : Exit → Act → World → Prop}
theorem St.frz (S : St P n w0 M u N β σ a w) {G : Prop} {α : Type} [GT α] (k : Nat) (x : α) (p : GT.Ptr α) (hx : GT.own KK NoB w x p)
    (K : ∀ (β' : Nat → Nat) (N' : Bl) (b : Nat) (F : Bl), St P n w0 M w N' β' (σ.frz k b) a w → (∀ b, N b → N' b ∧ w.heap[b]? = u.heap[b]?) → Ow w0 M w N' F [x] (cap1 b p) → Disj N F → G)
    (hk : σ.bx[k]? = some (GT.cells x p) := by kernel_rfl) : G := by
  have hkl : k < σ.bx.length := (List.getElem?_eq_some_iff.1 hk).1
  obtain ⟨T, hT⟩ := S.box k _ hk
  have hb : β k < w.heap.size := by
    rcases Nat.lt_or_ge (β k) w.heap.size with hl | hl
    · exact hl
    · rw [Array.getElem?_eq_none hl] at hT; cases hT
  have hlen : (σ.bx.eraseIdx k).length = σ.bx.length - 1 := List.length_eraseIdx_of_lt hkl
  have hmap : ∀ i, i < (σ.bx.eraseIdx k).length → (bif Nat.blt i k then i else i + 1) < σ.bx.length ∧ (bif Nat.blt i k then i else i + 1) ≠ k := fun i hi => by
    rw [hlen] at hi
    cases h : Nat.blt i k with
    | true => have := (Nat.le_of_ble_eq_true h : i + 1 ≤ k); exact ⟨by simp only [cond_true]; omega, by simp only [cond_true]; omega⟩
    | false =>
      have : ¬ i < k := fun hh => by rw [show Nat.blt i k = true from Nat.ble_eq_true_of_le hh] at h; cases h
      exact ⟨by simp only [cond_false]; omega, by simp only [cond_false]; omega⟩
  have hwid := GT.len x p
  refine K (fun i => β (bif Nat.blt i k then i else i + 1)) (fun b => N b ∨ b = β k) (β k) (fun b => b = β k) ⟨S.df, S.sz, fun t s ht => ?_, fun t i o ht => ?_, fun i cs hi => ?_, fun i j hi hj h => ?_, fun i hi => ?_, fun b hb' => ?_, S.chg, fun b hb' hm => ?_⟩ (fun b hb' => ⟨.inl hb', (S.sep b hb').2.1⟩) ⟨?_, fun b h => .inr h, fun b h => ?_⟩ (fun b h1 h2 => ?_)
  · rw [show (σ.frz k (β k)).env = frzE k (β k) σ.env from rfl, look_frzE] at ht
    cases hs : look σ.env t with
    | none => rw [hs] at ht; cases ht
    | some s0 =>
      rw [hs] at ht
      simp only [Option.map_some, Option.some.injEq] at ht
      subst ht
      rw [S.env t s0 hs]
      congr 1
      cases s0 with
      | v x => rfl
      | p j o =>
        simp only [frzS]
        cases he : Nat.beq j k with
        | true => rw [Nat.eq_of_beq_eq_true he]; rfl
        | false =>
          have hjk : j ≠ k := fun e => by rw [e, Nat.beq_refl] at he; cases he
          simp only [cond_false, SV.val]
          cases hl : Nat.blt k j with
          | true =>
            have h1 : k < j := Nat.le_of_ble_eq_true hl
            have h2 : Nat.blt (j - 1) k = false := by
              cases h3 : Nat.blt (j - 1) k with
              | false => rfl
              | true => have := (Nat.le_of_ble_eq_true h3 : j - 1 + 1 ≤ k); omega
            simp only [cond_true, h2, cond_false]
            rw [show j - 1 + 1 = j by omega]
          | false =>
            have h1 : ¬ k < j := fun hh => by rw [show Nat.blt k j = true from Nat.ble_eq_true_of_le hh] at hl; cases hl
            have h2 : Nat.blt j k = true := Nat.ble_eq_true_of_le (by omega : j + 1 ≤ k)
            simp only [cond_false, h2, cond_true]
  · rw [show (σ.frz k (β k)).env = frzE k (β k) σ.env from rfl, look_frzE] at ht
    show i < (σ.bx.eraseIdx k).length
    cases hs : look σ.env t with
    | none => rw [hs] at ht; cases ht
    | some s0 =>
      rw [hs] at ht
      simp only [Option.map_some, Option.some.injEq] at ht
      cases s0 with
      | v x => cases ht
      | p j o' =>
        have hj := S.ok t j o' hs
        simp only [frzS] at ht
        cases he : Nat.beq j k with
        | true => rw [he] at ht; cases ht
        | false =>
          have hjk : j ≠ k := fun e => by rw [e, Nat.beq_refl] at he; cases he
          rw [he] at ht
          simp only [cond_false, SV.p.injEq] at ht
          rw [hlen, ← ht.1]
          cases hl : Nat.blt k j with
          | true => simp only [cond_true]; have := (Nat.le_of_ble_eq_true hl : k + 1 ≤ j); omega
          | false =>
            have h1 : ¬ k < j := fun hh => by rw [show Nat.blt k j = true from Nat.ble_eq_true_of_le hh] at hl; cases hl
            simp only [cond_false]; omega
  · have hi' : (σ.bx.eraseIdx k)[i]? = some cs := hi
    rw [List.getElem?_eraseIdx] at hi'
    cases h : Nat.blt i k with
    | true =>
      rw [if_pos (show i < k from Nat.le_of_ble_eq_true h)] at hi'
      obtain ⟨T', h'⟩ := S.box i cs hi'
      exact ⟨T', by simpa only [h, cond_true] using h'⟩
    | false =>
      have : ¬ i < k := fun hh => by rw [show Nat.blt i k = true from Nat.ble_eq_true_of_le hh] at h; cases h
      rw [if_neg this] at hi'
      obtain ⟨T', h'⟩ := S.box (i + 1) cs hi'
      exact ⟨T', by simpa only [h, cond_false] using h'⟩
  · have e := S.inj _ _ (hmap i hi).1 (hmap j hj).1 h
    have a1 := (hmap i hi).2
    have a2 := (hmap j hj).2
    revert e a1 a2
    cases h1 : Nat.blt i k <;> cases h2 : Nat.blt j k <;> simp only [cond_true, cond_false] <;> intro e a1 a2
    · omega
    · have := (Nat.le_of_ble_eq_true h2 : j + 1 ≤ k)
      have : ¬ i < k := fun hh => by rw [show Nat.blt i k = true from Nat.ble_eq_true_of_le hh] at h1; cases h1
      omega
    · have := (Nat.le_of_ble_eq_true h1 : i + 1 ≤ k)
      have : ¬ j < k := fun hh => by rw [show Nat.blt j k = true from Nat.ble_eq_true_of_le hh] at h2; cases h2
      omega
    · exact e
  · exact S.new _ (hmap i hi).1
  · rcases hb' with h | h
    · exact ⟨(S.sep b h).1, rfl, fun i hi => (S.sep b h).2.2 _ (hmap i hi).1⟩
    · subst h
      exact ⟨hb, rfl, fun i hi e => (hmap i hi).2 (S.inj _ _ (hmap i hi).1 hkl e)⟩
  · have h := S.old b hb' hm
    exact ⟨.inl h.1, (S.sep b h.1).2.1.trans h.2⟩
  · show LOwn KK _ w [x] (cap1 (β k) p)
    refine ⟨by simp [KK], Nat.le_refl _, by simp [cap1], fun h => (by cases h), fun _ => ⟨rfl, _, T, hT, by simp [cap1, hwid]⟩, fun i hi => ?_, ⟨fun _ => NoB, fun i hi => ?_, fun _ _ _ h => False.elim h, fun i j hi hj hij => by simp at hi hj; omega⟩⟩
    · have e : i = 0 := by simp at hi; exact hi
      subst e
      intro j v hj
      have hc : w.cell? ⟨β k, 0 + 0 * GT.width α + j, none⟩ = some v := by
        unfold World.cell?
        rw [hT]
        have hj' : (GT.cells x p)[j]? = some v := hj
        simp [hj']
      exact hc
    · have e : i = 0 := by simp at hi; exact hi
      subst e
      exact hx
  · subst h; exact S.new k hkl
  · subst h2; exact (S.sep _ h1).2.2 k hkl rfl
theorem St.argG {α : Type} [GT α] {K : Nat} {G : Bl} {x : α} {p : GT.Ptr α} (S : St P n w0 M u N β σ a w) (h : GT.rd K G w0 x p) (hG : ∀ b, G b → b < w0.heap.size ∧ ¬ M b) : GT.rd K N u x p :=
  GT.rd_mono (GT.rd_agree h (fun b hb _ => (S.old b (hG b hb).1 (hG b hb).2).2)) (Nat.le_refl _) (fun b hb => (S.old b (hG b hb).1 (hG b hb).2).1)
def RetT {α : Type} [GT α] (Mc F : Bl) (w : World) (r : α) (e : Ending) (w' : World) : Prop :=
  ∃ q F', e = .returned (GT.val r q) ∧ Chg Mc w w' ∧ GT.own KK F' w' r q ∧ ∀ b, F' b → F b ∨ (w.heap.size ≤ b ∧ b < w'.heap.size)
def Ret2W {α α' γ : Type} [GT α] [GT α'] [GT γ] (F : Bl) (qn : LP γ) (w : World) (r : α) (r' : α') (n' : γ) (e : Ending) (w' : World) : Prop :=
  ∃ (q : GT.Ptr α) (q' : GT.Ptr α') (F1 F2 : Bl) (p2 : Nat → GT.Ptr γ), e = .returned (.tuple #[GT.val r q, GT.val r' q']) ∧ Chg F w w' ∧ GT.own KK F1 w' r q ∧ GT.own KK F2 w' r' q' ∧ (∀ b, F1 b → w.heap.size ≤ b ∧ b < w'.heap.size) ∧ GT.own KK F w' [n'] ((qn.1, p2) : LP γ)
def RetC {α : Type} [GT α] (R : GT.Ptr α → GT.Ptr α → Prop) (F : Bl) (qn : LP α) (w : World) (v : Value) (h' : α) (e : Ending) (w' : World) : Prop :=
  ∃ (p2 : Nat → GT.Ptr α) (F' : Bl), e = .returned v ∧ Chg F w w' ∧ GT.own KK F' w' [h'] ((qn.1, p2) : LP α) ∧ (∀ b, F' b → F b ∨ (w.heap.size ≤ b ∧ b < w'.heap.size)) ∧ R (qn.2 0) (p2 0)
def callAcN (P : Program) (ops : Array Oper) (i : Nat) (σ : Sy) : Option (FuncId × List Value) :=
  match ops.toList[i]? with
  | some o =>
    match guardv ops σ o, o.op, o.dst with
    | some true, .call ⟨.value (.func f), args, _⟩, none => bif callee P f then (vlist σ args.toList).map fun l => (f, l) else none
    | _, _, _ => none
  | none => none
end
end Go.Proofs.Ytgonaioedbphgaa
