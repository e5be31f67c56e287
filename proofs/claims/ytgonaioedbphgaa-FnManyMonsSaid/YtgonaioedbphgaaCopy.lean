/- The built-in copy, where elements own nothing. No program is named here. -/
import Derived.Test.YtgonaioedbphgaaSlice
import Derived.Test.YtgonaioedbphgaaShort
namespace Go.Proofs.Ytgonaioedbphgaa
open Go
set_option linter.unusedVariables false
section
variable {P : Program} {n : Nat} {w0 : World} {M : Bl} {u : World} {N : Bl} {β : Nat → Nat} {σ : Sy} {a : Act} {w : World} {ops : Array Oper} {K' : Act → World → Prop} {Q : Exit → Act → World → Prop}
def copyAc (P : Program) (n : Nat) (ops : Array Oper) (i : Nat) (σ : Sy) : Option (Value × Value × Nat × Tmp) :=
  match ops.toList[i]? with
  | some o =>
    match guardv ops σ o, o.op, o.dst with
    | some true, .call ⟨.builtin .copy, args, ats⟩, some d =>
      match args.toList, ats.toList with
      | [x, y], [t1, t2] =>
        match P.underlying t1, σ.get x, σ.get y with
        | some (.slice e), some (.v s), some (.v r) =>
          match tsize P e with
          | some z => bif Nat.blt d n then some (s, r, z, d) else none
          | none => none
        | _, _, _ => none
      | _, _ => none
    | _, _, _ => none
  | none => none
theorem firstCells_len (s n a b : Nat) (p : SP) : Builtin.firstCells s n (slv a p) = Builtin.firstCells s n (slv b p) := by
  unfold slv
  cases p.addr <;> rfl
theorem run_copy {t1 t2 e ty : TypeId} {W k ld ls : Nat} {pd q : SP} {cells : List Value} {w' : World} (h1 : P.underlying t1 = some (.slice e)) (hs : tsize P e = some W) (hk : k = Nat.min ls ld)
    (hf : (Builtin.firstCells W k (slv ls q)).run P w = .ok cells.toArray w) (hst : (match pd.addr with | some a => storeCells a cells | none => pure ()).run P w = .ok () w') :
    (Builtin.copy_ #[t1, t2] ty #[slv ld pd, slv ls q]).run P w = .ok (I k) w' := by
  subst hk
  unfold slv at hf ⊢
  cases ha : pd.addr with
  | none =>
    rw [ha] at hst
    simp only [Sem.run_pure] at hst
    injection hst with _ hw
    subst hw
    simp only [Builtin.copy_, List.getElem?_toArray, List.getElem?_cons_zero, List.getElem?_cons_succ, Sem.run_bind, run_underlying h1, Result.andThen_ok, Builtin.lenOf, Sem.run_pure, run_size hs, hf]
    rfl
  | some ad =>
    rw [ha] at hst
    simp only at hst
    simp only [Builtin.copy_, List.getElem?_toArray, List.getElem?_cons_zero, List.getElem?_cons_succ, Sem.run_bind, run_underlying h1, Result.andThen_ok, Builtin.lenOf, Sem.run_pure, run_size hs, hf, hst]
    rfl
theorem el_mid {α : Type} [GT α] {xs ys : List α} {a k i : Nat} (h1 : a + k ≤ xs.length) (h2 : k ≤ ys.length) : el (xs.take a ++ ys.take k ++ xs.drop (a + k)) i = if i < a then el xs i else if i < a + k then el ys (i - a) else el xs i := by
  unfold el
  simp only [List.getD_eq_getElem?_getD]
  congr 1
  have l1 : (xs.take a).length = a := by simp; omega
  have l2 : (ys.take k).length = k := by simp; omega
  by_cases c1 : i < a
  · rw [if_pos c1, List.append_assoc, List.getElem?_append_left (by omega), List.getElem?_take_of_lt c1]
  · rw [if_neg c1]
    by_cases c2 : i < a + k
    · rw [if_pos c2, List.append_assoc, List.getElem?_append_right (by omega), l1, List.getElem?_append_left (by omega), List.getElem?_take_of_lt (by omega)]
    · rw [if_neg c2, List.append_assoc, List.getElem?_append_right (by omega), l1, List.getElem?_append_right (by omega), l2, List.getElem?_drop, show a + k + (i - a - k) = i by omega]
theorem cpy_len {α : Type} {xs ys : List α} {a k : Nat} (h1 : a + k ≤ xs.length) (h2 : k ≤ ys.length) : (xs.take a ++ ys.take k ++ xs.drop (a + k)).length = xs.length := by
  simp; omega
theorem St.copy {α : Type} [GT α] {xs ys : List α} {p q : LP α} {F : Bl} (S : St P n w0 M u N β σ a w) (hx : Ow w0 M u N F xs p) (hy : Rn u N ys q)
    (hfl : ∀ (x : α) (r : GT.Ptr α) (B : Bl) (v v' : World), GT.rd KK B v x r → GT.own KK NoB v' x r) {i a' k : Nat} {d : Tmp} (ha : a' ≤ xs.length) (hk : k = Nat.min ys.length (xs.length - a'))
    (hop : copyAc P n ops i σ = some (slv (xs.length - a') (p.1.sl a' (GT.width α)), slv ys.length q.1, GT.width α, d))
    (K : ∀ a2 w' N' p2, St P n w0 M w' N' β ⟨(d, .v (I k)) :: σ.env, σ.bx⟩ a2 w' → (∀ b, N b → ¬ F b → N' b ∧ w'.heap[b]? = u.heap[b]?) → Ow w0 M w' N' F (xs.take a' ++ ys.take k ++ xs.drop (a' + k)) ((p.1, p2) : LP α) → K' a2 w') : wpOp P ops Q i K' a w := by
  have hkm : k = min ys.length (xs.length - a') := hk
  have hk1 : a' + k ≤ xs.length := by omega
  have hk2 : k ≤ ys.length := by omega
  unfold copyAc at hop
  split at hop
  · rename_i o ho
    have ho' : ops[i]? = some o := by simpa using ho
    split at hop
    · rename_i args ats d' hg hopq hdst
      split at hop
      · rename_i x y t1 t2 hargs hats
        split at hop
        · rename_i e s r hu1 hsx hsy
          split at hop
          · rename_i z hz
            cases hbb : Nat.blt d' n with
            | false => rw [hbb] at hop; cases hop
            | true =>
              rw [hbb] at hop
              simp only [cond_true, Option.some.injEq, Prod.mk.injEq] at hop
              obtain ⟨rfl, rfl, hsz, rfl⟩ := hop
              have e1 : args = #[x, y] := by rw [← Array.toList_inj]; exact hargs
              have e2' : ats = #[t1, t2] := by rw [← Array.toList_inj]; exact hats
              subst e1 e2' hsz
              have hox : LOwn KK F u xs p := hx.own
              have hyr : LRd KK N u ys q := hy
              have hsep : ∀ b, N b → w.heap[b]? = u.heap[b]? := fun b hb => (S.sep b hb).2.1
              have hxr : LRd KK N u xs p := hx.rn
              -- what is read
              have hty : (ys.take k).length = k := by simp; omega
              have eltk : ∀ j, j < k → el (ys.take k) j = el ys j := fun j hj => by unfold el; rw [List.getD_eq_getElem?_getD, List.getD_eq_getElem?_getD, List.getElem?_take_of_lt hj]
              have hyc : ∀ j, j < (ys.take k).length → CellsAt w q.1.b (q.1.off + j * GT.width α) (GT.cells (el (ys.take k) j) (q.2 j)) := fun j hj => by
                rw [hty] at hj
                rw [eltk j hj]
                exact (hyr.cell j (by omega)).agree (hsep _ (hyr.at_ (by omega)).2)
              have hyn : q.1.nil = true → (ys.take k).length = 0 := fun h => by
                rcases Nat.eq_zero_or_pos ys.length with h0 | h0
                · omega
                · have := (hyr.at_ h0).1; rw [h] at this; cases this
              have hf := run_firstCells (P := P) hyc hyn (GT.width α) rfl
              rw [hty, firstCells_len _ _ k ys.length] at hf
              have hfl' := flatCells_len (ys.take k) q.2 k
              -- what a step gives
              have step : ∀ (w' : World), (match (p.1.sl a' (GT.width α)).addr with | some a => storeCells a (flatCells (ys.take k) q.2 k) | none => pure ()).run P w = .ok () w' → K' (a.put (some d') (I k)) w' → wpOp P ops Q i K' a w := fun w' hst hk' => by
                refine OP.step ho' (guard_ok S hg) ?_
                have hex : (execOp a.eval o).run P w = .ok (.value (I k)) w' := by
                  unfold execOp
                  simp only [hopq]
                  simp only [resolve, List.map_toArray, List.map_cons, List.map_nil, S.get hsx, S.get hsy]
                  show (do let v ← Builtin.copy_ #[t1, t2] o.type #[slv (xs.length - a') (p.1.sl a' (GT.width α)), slv ys.length q.1]; pure (Next.value v) : Sem Next).run P w = _
                  rw [Sem.run_bind, run_copy hu1 hz hk hf hst]
                  rfl
                unfold Oper.wp
                rw [hex]
                simp only [Oper.upon, hdst]
                exact hk'
              -- the elements
              have helo : ∀ (w' : World) (j : Nat), j < xs.length → GT.own KK NoB w' (el (xs.take a' ++ ys.take k ++ xs.drop (a' + k)) j) (if j < a' then p.2 j else if j < a' + k then q.2 (j - a') else p.2 j) := fun w' j hj => by
                rw [el_mid hk1 hk2]
                by_cases c1 : j < a'
                · rw [if_pos c1, if_pos c1]; exact hfl _ _ _ _ _ (hxr.el j hj)
                · rw [if_neg c1, if_neg c1]
                  by_cases c2 : j < a' + k
                  · rw [if_pos c2, if_pos c2]; exact hfl _ _ _ _ _ (hyr.el (j - a') (by omega))
                  · rw [if_neg c2, if_neg c2]; exact hfl _ _ _ _ _ (hxr.el j hj)
              have hel : ∀ (w' : World), ∃ G : Nat → Bl, (∀ j, j < (xs.take a' ++ ys.take k ++ xs.drop (a' + k)).length → GT.own KK (G j) w' (el (xs.take a' ++ ys.take k ++ xs.drop (a' + k)) j) (if j < a' then p.2 j else if j < a' + k then q.2 (j - a') else p.2 j)) ∧ (∀ j, j < (xs.take a' ++ ys.take k ++ xs.drop (a' + k)).length → ∀ b, G j b → F b ∧ b ≠ p.1.b) ∧ (∀ j j', j < (xs.take a' ++ ys.take k ++ xs.drop (a' + k)).length → j' < (xs.take a' ++ ys.take k ++ xs.drop (a' + k)).length → j ≠ j' → Disj (G j) (G j')) := fun w' =>
                ⟨fun _ => NoB, fun j hj => helo w' j (by rwa [cpy_len hk1 hk2] at hj), fun _ _ _ h => False.elim h, fun _ _ _ _ _ _ h => False.elim h⟩
              let pn : Nat → GT.Ptr α := fun j => if j < a' then p.2 j else if j < a' + k then q.2 (j - a') else p.2 j
              by_cases hk0 : k = 0
              · -- nothing is copied
                have hz0 : flatCells (ys.take k) q.2 k = [] := by rw [hk0]; rfl
                have hzs : xs.take a' ++ ys.take k ++ xs.drop (a' + k) = xs := by rw [hk0]; simp
                refine step w ?_ (K _ w _ p.2 ((S.afterF (Chg.refl F w) hx.sub hx.young).put (look_put hbb) (fun _ _ e => by cases e)) (S.upF (Chg.refl F w)) ?_)
                · rw [hz0]
                  cases (p.1.sl a' (GT.width α)).addr <;> rfl
                · rw [hzs]
                  exact ⟨GT.own_agree hx.own (fun b hb _ => hsep b (hx.sub b hb)), fun b hb => .inl (hx.sub b hb), hx.young⟩
              · have hcap := hox.cap
                have hnn : p.1.nil = false := hox.nonil (by omega)
                obtain ⟨hF, cs, T, hrow, hszr⟩ := hox.row hnn
                obtain ⟨hlt, hwu, _⟩ := S.sep _ (hx.sub _ hF)
                have hwrow : w.heap[p.1.b]? = some (.cells cs T (0, 0)) := hwu.trans hrow
                have hmul : (a' + k) * GT.width α ≤ p.1.cap * GT.width α := Nat.mul_le_mul_right _ (by omega)
                rw [Nat.add_mul] at hmul
                have hsl : (p.1.sl a' (GT.width α)).addr = some ⟨p.1.b, p.1.off + a' * GT.width α, none⟩ := by
                  unfold SP.sl SP.addr
                  have e1 : (p.1.cap == a') = false := by simp; omega
                  simp only [hnn, e1, cond_false]
                have hle : p.1.off + a' * GT.width α + (flatCells (ys.take k) q.2 k).length ≤ cs.size := by rw [hfl']; omega
                have hst := run_storeCells_at (P := P) p.1.b (p.1.off + a' * GT.width α) T (flatCells (ys.take k) q.2 k) 0 cs w hwrow (by simpa using hle) (flatCells_plain _ _ _)
                simp only [Nat.add_zero] at hst
                generalize hvs : flatCells (ys.take k) q.2 k = vs at hst hle hfl' step
                generalize hoff : p.1.off + a' * GT.width α = off at hst hle hsl
                have hnew := setRow_heap w p.1.b cs (cs.toList.take off ++ vs ++ cs.toList.drop (off + vs.length)).toArray T (0, 0) hwrow
                have hoth : ∀ b, b ≠ p.1.b → (w.setRow p.1.b (cs.toList.take off ++ vs ++ cs.toList.drop (off + vs.length)).toArray).heap[b]? = w.heap[b]? := fun b hb => by
                  simp only [World.setRow, Array.getElem?_modify]
                  rw [if_neg (fun e => hb e.symm)]
                have hwsz : (w.setRow p.1.b (cs.toList.take off ++ vs ++ cs.toList.drop (off + vs.length)).toArray).heap.size = w.heap.size := by simp [World.setRow]
                generalize hw' : w.setRow p.1.b (cs.toList.take off ++ vs ++ cs.toList.drop (off + vs.length)).toArray = w' at *
                have hch : Chg F w w' := by
                  subst hw'
                  exact ⟨rfl, rfl, rfl, by rw [hwsz]; exact Nat.le_refl _, fun b _ hn => hoth b (fun e => hn (e ▸ hF))⟩
                have hcell : ∀ pos, w'.cell? ⟨p.1.b, pos, none⟩ = if pos < off then cs[pos]? else if pos < off + vs.length then vs[pos - off]? else cs[pos]? := fun pos => by
                  simp only [World.cell?, hnew, Option.isSome_none, Bool.false_eq_true, if_false]
                  have := splice_get cs.toList vs off pos (by simpa using hle)
                  simpa using this
                have hold : ∀ pos x, u.cell? ⟨p.1.b, pos, none⟩ = some x → cs[pos]? = some x := fun pos x h => by
                  simpa [World.cell?, hrow] using h
                refine step w' (by rw [hsl]; exact hst) (K _ w' _ pn ((S.afterF hch hx.sub hx.young).put (look_put hbb) (fun _ _ e => by cases e)) (S.upF hch) ⟨?_, fun b hb => .inl (hx.sub b hb), hx.young⟩)
                refine ⟨by rw [cpy_len hk1 hk2]; exact hox.le, by rw [cpy_len hk1 hk2]; exact hox.cap, hox.capm, hox.null, fun _ => ⟨hF, _, T, hnew, ?_⟩, fun j hj => ?_, hel w'⟩
                · have : (cs.toList.take off ++ vs ++ cs.toList.drop (off + vs.length)).toArray.size = cs.size := by simp at hle ⊢; omega
                  rw [this]; exact hszr
                · rw [cpy_len hk1 hk2] at hj
                  intro z x hz'
                  rw [el_mid hk1 hk2] at hz'
                  have hcj : (j + 1) * GT.width α ≤ p.1.cap * GT.width α := Nat.mul_le_mul_right _ (by omega)
                  have hz0 : z < GT.width α := by
                    have := (List.getElem?_eq_some_iff.1 hz').1
                    rwa [GT.len] at this
                  show w'.cell? ⟨p.1.b, p.1.off + j * GT.width α + z, none⟩ = some x
                  rw [hcell]
                  by_cases c1 : j < a'
                  · simp only [c1, if_true, pn] at hz'
                    have hja : (j + 1) * GT.width α ≤ a' * GT.width α := Nat.mul_le_mul_right _ c1
                    rw [Nat.add_mul, Nat.one_mul] at hja
                    rw [if_pos (by omega)]
                    exact hold _ _ (hox.cell j hj z x hz')
                  · have haj : a' * GT.width α ≤ j * GT.width α := Nat.mul_le_mul_right _ (by omega)
                    by_cases c2 : j < a' + k
                    · simp only [c1, c2, if_true, if_false, pn] at hz'
                      have hjk : (j - a' + 1) * GT.width α ≤ k * GT.width α := Nat.mul_le_mul_right _ (by omega)
                      rw [Nat.add_mul, Nat.one_mul, Nat.sub_mul] at hjk
                      rw [if_neg (by omega), if_pos (by omega)]
                      have hg := flatCells_get (ys.take k) q.2 k (j - a') z (by omega) hz0
                      rw [hvs, eltk _ (by omega), hz'] at hg
                      rw [← hg]
                      congr 1
                      rw [Nat.sub_mul]
                      omega
                    · simp only [c1, c2, if_false, pn] at hz'
                      have hjk : (a' + k) * GT.width α ≤ j * GT.width α := Nat.mul_le_mul_right _ (by omega)
                      rw [Nat.add_mul] at hjk
                      rw [if_neg (by omega), if_neg (by omega)]
                      exact hold _ _ (hox.cell j hj z x hz')
          · cases hop
        · cases hop
      · cases hop
    · cases hop
  · cases hop
theorem St.copyL {α : Type} [GT α] {xs ys : List α} {p q : LP α} {F : Bl} (S : St P n w0 M u N β σ a w) (hx : Ow w0 M u N F xs p) (hy : Rn u N ys q)
    (hfl : ∀ (x : α) (r : GT.Ptr α) (B : Bl) (v v' : World), GT.rd KK B v x r → GT.own KK NoB v' x r) {i : Nat} {d : Tmp} (a' ld ls : Nat) (ha : a' ≤ xs.length) (hld : ld = xs.length - a') (hls : ls = ys.length)
    (hop : copyAc P n ops i σ = some (slv ld (p.1.sl a' (GT.width α)), slv ls q.1, GT.width α, d))
    (K : ∀ a2 w' N' p2, St P n w0 M w' N' β ⟨(d, .v (I ((min ls ld : Nat) : Int))) :: σ.env, σ.bx⟩ a2 w' → (∀ b, N b → ¬ F b → N' b ∧ w'.heap[b]? = u.heap[b]?) → Ow w0 M w' N' F (xs.take a' ++ ys.take (min ls ld) ++ xs.drop (a' + min ls ld)) ((p.1, p2) : LP α) → K' a2 w') : wpOp P ops Q i K' a w := by
  subst hld hls
  exact S.copy hx hy hfl ha rfl hop K
theorem St.copy0 {α : Type} [GT α] {xs ys : List α} {p q : LP α} {F : Bl} (S : St P n w0 M u N β σ a w) (hx : Ow w0 M u N F xs p) (hy : Rn u N ys q)
    (hfl : ∀ (x : α) (r : GT.Ptr α) (B : Bl) (v v' : World), GT.rd KK B v x r → GT.own KK NoB v' x r) {i : Nat} {d : Tmp} (ld ls : Nat) (hld : ld = xs.length) (hls : ls = ys.length)
    (hop : copyAc P n ops i σ = some (slv ld p.1, slv ls q.1, GT.width α, d))
    (K : ∀ a2 w' N' p2, St P n w0 M w' N' β ⟨(d, .v (I ((min ls ld : Nat) : Int))) :: σ.env, σ.bx⟩ a2 w' → (∀ b, N b → ¬ F b → N' b ∧ w'.heap[b]? = u.heap[b]?) → Ow w0 M w' N' F (xs.take 0 ++ ys.take (min ls ld) ++ xs.drop (0 + min ls ld)) ((p.1, p2) : LP α) → K' a2 w') : wpOp P ops Q i K' a w :=
  S.copyL hx hy hfl 0 ld ls (Nat.zero_le _) hld hls (by rw [SP.sl_zero]; exact hop) K
def uadd (x y : Int) : Int := IntKind.u64.wrap (x + y)
def umul (x y : Int) : Int := IntKind.u64.wrap (x * y)
def uand (x y : Int) : Int := IntKind.u64.wrap ((BitVec.ofInt 64 x &&& BitVec.ofInt 64 y).toNat)
def ushr (x y : Int) : Int := x.fdiv (2 ^ (min y.toNat 64))
theorem Q_uadd {x y : Int} : Quiet1 P u N (.int .add .u64 x y) (.int .u64 (uadd x y)) := fun _ _ => rfl
theorem Q_umul {x y : Int} : Quiet1 P u N (.int .mul .u64 x y) (.int .u64 (umul x y)) := fun _ _ => rfl
theorem Q_uand {x y : Int} : Quiet1 P u N (.int .and .u64 x y) (.int .u64 (uand x y)) := fun _ _ => rfl
theorem Q_ushr {yk : IntKind} {x y : Int} (h : 0 ≤ y) : Quiet1 P u N (.sem (Op.shift .shr .u64 x yk y)) (.int .u64 (ushr x y)) := fun w _ => by
  show (Op.shift .shr .u64 x yk y).run P w = _
  unfold Op.shift
  rw [if_neg (by omega)]; rfl
theorem Q_convi {s d : TypeId} {ts : TypeDesc} {x : Int} (hs : P.underlying s = some ts) (hd : P.underlying d = some (.int .i64)) (h0 : 0 ≤ x) (h1 : x ≤ 9223372036854775807) : Quiet1 P u N (.sem (Go.convert s d (.int .u64 x))) (I x) := fun w _ => by
  show (Go.convert s d (.int .u64 x)).run P w = _
  unfold Go.convert
  simp only [Sem.run_bind, run_underlying hs, run_underlying hd, Result.andThen_ok]
  have e : IntKind.i64.wrap x = x := wrap_in ⟨by omega, by omega⟩
  unfold Conv.intToInt
  rw [e]
  cases ts <;> rfl
theorem mulHi {y : Int} (h0 : 0 ≤ y) (h1 : y ≤ 24) : uadd (uadd (umul (ushr 1 32) (ushr y 32)) (ushr (uadd (umul (ushr 1 32) (uand y 4294967295)) (ushr (umul (uand 1 4294967295) (uand y 4294967295)) 32)) 32)) (ushr (uadd (uand (uadd (umul (ushr 1 32) (uand y 4294967295)) (ushr (umul (uand 1 4294967295) (uand y 4294967295)) 32)) 4294967295) (umul (uand 1 4294967295) (ushr y 32))) 32) = 0 := by
  have key : ∀ y : Fin 25, uadd (uadd (umul (ushr 1 32) (ushr ((y.val : Nat) : Int) 32)) (ushr (uadd (umul (ushr 1 32) (uand ((y.val : Nat) : Int) 4294967295)) (ushr (umul (uand 1 4294967295) (uand ((y.val : Nat) : Int) 4294967295)) 32)) 32)) (ushr (uadd (uand (uadd (umul (ushr 1 32) (uand ((y.val : Nat) : Int) 4294967295)) (ushr (umul (uand 1 4294967295) (uand ((y.val : Nat) : Int) 4294967295)) 32)) 4294967295) (umul (uand 1 4294967295) (ushr ((y.val : Nat) : Int) 32))) 32) = 0 := by decide +kernel
  have h := key ⟨y.toNat, by omega⟩
  simp only [Int.toNat_of_nonneg h0] at h
  exact h
theorem mulLo {y : Int} (h0 : 0 ≤ y) (h1 : y ≤ 24) : umul 1 y = y := by
  have key : ∀ y : Fin 25, umul 1 ((y.val : Nat) : Int) = ((y.val : Nat) : Int) := by decide +kernel
  have h := key ⟨y.toNat, by omega⟩
  simp only [Int.toNat_of_nonneg h0] at h
  exact h
end
end Go.Proofs.Ytgonaioedbphgaa
