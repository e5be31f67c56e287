/- Slices of a function's own: literals and append. No program is named here. -/
import Derived.Test.YtgonaioedbphgaaCore8
namespace Go.Proofs.Ytgonaioedbphgaa
open Go
section
variable {P : Program} {n : Nat} {w0 : World} {M : Bl} {u : World} {N : Bl} {β : Nat → Nat} {σ σ' : Sy} {a : Act} {w : World} {ops : Array Oper} {Q : Exit → Act → World → Prop} {K' : Act → World → Prop}
def rowOf (s : Nat) : Nat → List (Nat × Value) → Option (List Value)
  | _, [] => some []
  | k, (i, v) :: r => bif Nat.beq i k && Nat.beq v.cells.toList.length s then (rowOf s (k + 1) r).map fun l => v.cells.toList ++ l else none
theorem fold_set (off : Nat) : ∀ (l : List Value) (j : Nat) (pre x suf : List Value), pre.length = off + j → x.length = l.length →
    (l.zipIdx j).foldl (fun (cs : Array Value) (c : Value × Nat) => cs.setIfInBounds (off + c.2) c.1) (pre ++ x ++ suf).toArray = (pre ++ l ++ suf).toArray
  | [], j, pre, x, suf, h1, h2 => by
    have : x = [] := List.length_eq_zero_iff.1 (by simpa using h2)
    subst this; simp
  | v :: l, j, pre, x, suf, h1, h2 => by
    match x, h2 with
    | y :: x', h2 =>
      simp only [List.zipIdx_cons, List.foldl_cons]
      have e : ((pre ++ y :: x' ++ suf).toArray.setIfInBounds (off + j) v) = ((pre ++ [v]) ++ x' ++ suf).toArray := by
        simp only [List.setIfInBounds_toArray]
        congr 1
        rw [List.append_assoc, List.set_append_right _ _ (by omega), h1]
        simp
      rw [e, fold_set off l (j + 1) (pre ++ [v]) x' suf (by simp; omega) (by simpa using h2)]
      simp
theorem fill_row (s : Nat) : ∀ (l : List (Nat × Value)) (k : Nat) (row pre rest : List Value), rowOf s k l = some row → pre.length = k * s → rest.length = l.length * s →
    Instr.fill (fun i => some (i * s, s)) (pre ++ rest).toArray l = some (pre ++ row).toArray
  | [], k, row, pre, rest, h, h1, h2 => by
    simp only [rowOf, Option.some.injEq] at h
    subst h
    have : rest = [] := List.length_eq_zero_iff.1 (by simpa using h2)
    subst this
    simp [Instr.fill]
  | (i, v) :: r, k, row, pre, rest, h, h1, h2 => by
    simp only [rowOf] at h
    cases hb : (Nat.beq i k && Nat.beq v.cells.toList.length s) with
    | false => rw [hb] at h; cases h
    | true =>
      rw [hb] at h
      simp only [Bool.and_eq_true] at hb
      have e1 : i = k := Nat.eq_of_beq_eq_true hb.1
      have e2 : v.cells.toList.length = s := Nat.eq_of_beq_eq_true hb.2
      subst e1
      simp only [cond_true] at h
      cases hr : rowOf s (i + 1) r with
      | none => rw [hr] at h; cases h
      | some row' =>
        rw [hr] at h
        simp only [Option.map_some, Option.some.injEq] at h
        subst h
        have hlen : rest.length = s + r.length * s := by rw [h2, List.length_cons, Nat.add_mul, Nat.one_mul, Nat.add_comm]
        have hs : v.cells.size = s := by simpa using e2
        unfold Instr.fill
        have c : (v.cells.size ≠ s || decide (i * s + v.cells.size > (pre ++ rest).toArray.size)) = false := by
          simp [hs, h1, hlen]
        simp only [c, Bool.false_eq_true, if_false]
        have hf : v.cells.zipIdx.foldl (fun (cs : Array Value) (x : Value × Nat) => cs.setIfInBounds (i * s + x.2) x.1) (pre ++ rest).toArray = (pre ++ v.cells.toList ++ rest.drop s).toArray := by
          rw [← Array.foldl_toList, Array.toList_zipIdx]
          have := fold_set (i * s) v.cells.toList 0 pre (rest.take s) (rest.drop s) (by omega) (by simp; omega)
          simpa using this
        have := fill_row s r (i + 1) row' (pre ++ v.cells.toList) (rest.drop s) hr (by simp [Nat.add_mul, h1] at e2 ⊢; omega) (by simp; omega)
        have e3 : (fun (cs : Array Value) (x : Value × Nat) => match x with | (c, j) => cs.setIfInBounds (i * s + j) c) = fun cs x => cs.setIfInBounds (i * s + x.2) x.1 := by
          funext cs x; rfl
        rw [e3, hf, this]
        simp
def bsAc (P : Program) (n : Nat) (ops : Array Oper) (i : Nat) (σ : Sy) : Option (List Value × Nat × Tmp) :=
  match ops.toList[i]? with
  | some o =>
    match guardv ops σ o, o.op, o.dst with
    | some true, .buildSlice t len parts, some d =>
      match P.underlying t with
      | some (.slice e) =>
        match P.info? e with
        | some info =>
          match info.zero, gather σ parts.toList with
          | some z, some l => bif Nat.blt d n && Nat.beq z.cells.toList.length info.size && Nat.beq l.length len && Nat.ble (len * info.size) 16777216 && Nat.blt 0 info.size then (rowOf info.size 0 l).map fun r => (r, len, d) else none
          | _, _ => none
        | none => none
      | _ => none
    | _, _, _ => none
  | none => none
theorem St.bs (S : St P n w0 M u N β σ a w) {i : Nat} {row : List Value} {m : Nat} {d : Tmp} (hop : bsAc P n ops i σ = some (row, m, d))
    (K : ∀ a' w' T, St P n w0 M w' (Or N (Iv w.heap.size w'.heap.size)) β ⟨(d, .v (slv m ⟨false, w.heap.size, 0, m, none⟩)) :: σ.env, σ.bx⟩ a' w' → (∀ b, N b → Or N (Iv w.heap.size w'.heap.size) b ∧ w'.heap[b]? = u.heap[b]?) →
      w'.heap[w.heap.size]? = some (.cells row.toArray T (0, 0)) → w'.heap.size = w.heap.size + 1 → K' a' w') : wpOp P ops Q i K' a w := by
  unfold bsAc at hop
  split at hop
  · rename_i o ho
    have ho' : ops[i]? = some o := by simpa using ho
    split at hop
    · rename_i t len parts d' hg hopq hd
      split at hop
      · rename_i e hu
        split at hop
        · rename_i info hinfo
          split at hop
          · rename_i z l hz hl
            cases hbb : (Nat.blt d' n && Nat.beq z.cells.toList.length info.size && Nat.beq l.length len && Nat.ble (len * info.size) 16777216 && Nat.blt 0 info.size) with
            | false => rw [hbb] at hop; cases hop
            | true =>
              rw [hbb] at hop
              simp only [cond_true] at hop
              simp only [Bool.and_eq_true] at hbb
              obtain ⟨⟨⟨⟨b1, b2⟩, b3⟩, b4⟩, b5⟩ := hbb
              have e2 : z.cells.toList.length = info.size := Nat.eq_of_beq_eq_true b2
              have e3 : l.length = len := Nat.eq_of_beq_eq_true b3
              have e4 : len * info.size ≤ 16777216 := Nat.le_of_ble_eq_true b4
              have e5 : 0 < info.size := Nat.le_of_ble_eq_true b5
              cases hr : rowOf info.size 0 l with
              | none => rw [hr] at hop; cases hop
              | some row' =>
                rw [hr] at hop
                simp only [Option.map_some, Option.some.injEq, Prod.mk.injEq] at hop
                obtain ⟨rfl, rfl, rfl⟩ := hop
                refine OP.step ho' (guard_ok S hg) ?_
                have hparts : (parts.map fun (i, x) => (i, a.eval x)) = l.toArray := by
                  rw [← Array.toList_inj]
                  simpa using gather_ok S _ _ hl
                have hzero : (zeroValue e).run P w = .ok z w := by simp [zeroValue, typeInfo, hinfo, hz]
                have hfill : ∀ c0 : Array Value, c0.size = len * info.size → Instr.fill (fun i => some (i * info.size, info.size)) c0 l = some row'.toArray := fun c0 hc => by
                  have := fill_row info.size l 0 row' [] c0.toList hr (by simp) (by rw [e3]; simpa using hc)
                  simpa using this
                have hex : (execOp a.eval o).run P w = .ok (.value (.slice (some ⟨w.heap.size, 0, none⟩) len len)) { w with heap := w.heap.push (.cells row'.toArray e) } := by
                  unfold execOp
                  simp only [hopq]
                  show (do pure (.value (← Instr.buildSlice t len (parts.map fun (i, x) => (i, a.eval x)))) : Sem Next).run P w = _
                  rw [hparts]
                  unfold Instr.buildSlice
                  have hn : ¬ (len * info.size > 2 ^ 24) := by omega
                  simp only [Sem.run_bind, run_underlying hu, Result.andThen_ok, sizeOf, typeInfo, run_program, hinfo, Sem.run_pure]
                  simp only [hn, if_false]
                  by_cases h0 : len * info.size = 0
                  · simp only [h0, if_true, Sem.run_bind, Sem.run_pure, Result.andThen_ok]
                    rw [hfill _ (by simp [h0])]
                    simp [newRow]
                  · simp only [h0, if_false, Sem.run_bind, hzero, Sem.run_pure, Result.andThen_ok]
                    rw [hfill _ (by simp)]
                    simp [newRow]
                unfold Oper.wp
                rw [hex]
                simp only [Oper.upon, hd]
                have hch : Chg NoB w { w with heap := w.heap.push (.cells row'.toArray e) } := Chg.push NoB w _
                exact K _ _ e (S.after b1 hch) (S.up hch) (by simp) (by simp)
          · cases hop
        · cases hop
      · cases hop
    · cases hop
  · cases hop
theorem St.bs0 {α : Type} [GT α] (S : St P n w0 M u N β σ a w) {i : Nat} {d : Tmp} (hop : bsAc P n ops i σ = some ([], 0, d))
    (K : ∀ a' w' N' q F, St P n w0 M w' N' β ⟨(d, .v (slv 0 q.1)) :: σ.env, σ.bx⟩ a' w' → (∀ b, N b → N' b ∧ w'.heap[b]? = u.heap[b]?) →
      Ow w0 M w' N' F ([] : List α) q → Disj N F → K' a' w') : wpOp P ops Q i K' a w := by
  refine S.bs hop fun a' w' T S' up hrow hsz => K a' w' _ (⟨false, w.heap.size, 0, 0, none⟩, fun _ => GT.pdflt) (Iv w.heap.size w'.heap.size) S' up ⟨?_, fun _ h => .inr h, fun _ h => .inl (Nat.le_trans S.chg.size h.1)⟩ (Disj.fresh S w' fun _ h => h)
  exact ⟨Nat.zero_le _, Nat.zero_le _, Nat.zero_le _, fun h => (by cases h), fun _ => ⟨⟨Nat.le_refl _, (by show w.heap.size < w'.heap.size; omega)⟩, _, T, hrow, by simp⟩, fun i hi => absurd hi (Nat.not_lt_zero _), fun _ => NoB, fun i hi => absurd hi (Nat.not_lt_zero _), fun i hi => absurd hi (Nat.not_lt_zero _), fun i _ hi => absurd hi (Nat.not_lt_zero _)⟩
theorem St.bs1 {α : Type} [GT α] {x : α} {p : GT.Ptr α} {F : Bl} (S : St P n w0 M u N β σ a w) (hx : GT.own KK F u x p) (hN : ∀ b, F b → N b) (hY : ∀ b, F b → w0.heap.size ≤ b ∨ M b) {i : Nat} {d : Tmp} (hop : bsAc P n ops i σ = some (GT.cells x p, 1, d))
    (K : ∀ a' w' N' q F', St P n w0 M w' N' β ⟨(d, .v (slv 1 q.1)) :: σ.env, σ.bx⟩ a' w' → (∀ b, N b → N' b ∧ w'.heap[b]? = u.heap[b]?) →
      Ow w0 M w' N' F' [x] q → (∀ G : Bl, Disj G F → (∀ b, G b → N b) → Disj G F') → K' a' w') : wpOp P ops Q i K' a w := by
  refine S.bs hop fun a' w' T S' up hrow hsz => K a' w' _ (⟨false, w.heap.size, 0, 1, none⟩, fun _ => p) (Or F (Iv w.heap.size w'.heap.size)) S' up ⟨?_, fun b h => h.elim (fun h => .inl (hN b h)) .inr, fun b h => h.elim (hY b) (fun h => .inl (Nat.le_trans S.chg.size h.1))⟩
    (fun G g1 g2 b hb h => h.elim (g1 b hb) (Disj.fresh S w' (fun _ h => h) b (g2 b hb)))
  have hlt : ∀ b, F b → b < w.heap.size := fun b hb => (S.sep b (hN b hb)).1
  refine ⟨(show 1 ≤ KK by decide), Nat.le_refl _, (show 1 ≤ 9223372036854775807 by decide), fun h => (by cases h), fun _ => ⟨.inr ⟨Nat.le_refl _, (by show w.heap.size < w'.heap.size; omega)⟩, _, T, hrow, by simp [GT.len]⟩, fun i hi => ?_, fun _ => F, fun i hi => ?_, fun i hi b hb => ⟨.inl hb, fun e => by have := hlt b hb; simp only [] at e; omega⟩, fun i j hi hj hne => ?_⟩
  · simp at hi; subst hi
    intro j v hj
    have hj' : (GT.cells x p)[j]? = some v := hj
    simp only [World.cell?, hrow, Option.isSome_none, Bool.false_eq_true, if_false]
    simpa using hj'
  · simp at hi; subst hi
    exact GT.own_agree hx fun b hb _ => (up b (hN b hb)).2
  · simp at hi hj; omega
theorem growBy_le (m : Nat) : ∀ (r c : Nat), Builtin.growBy m r c ≤ 2 * m + 400 ∨ Builtin.growBy m r c ≤ c
  | 0, c => .inr (by simp [Builtin.growBy])
  | r + 1, c => by
    unfold Builtin.growBy
    split
    · exact .inr (Nat.le_refl _)
    · rename_i h
      rcases growBy_le m r (c + (c + 768) / 4) with h' | h'
      · exact .inl h'
      · exact .inl (by omega)
theorem nextcap_le (need cap : Nat) (h : cap < need) : Builtin.nextslicecap need cap ≤ 2 * need + 400 := by
  unfold Builtin.nextslicecap
  split
  · omega
  · split
    · omega
    · rcases growBy_le need 4 cap with h' | h' <;> omega
def appAc (P : Program) (n : Nat) (ops : Array Oper) (i : Nat) (σ : Sy) : Option (Value × Value × Nat × Nat × Tmp) :=
  match ops.toList[i]? with
  | some o =>
    match guardv ops σ o, o.op, o.dst with
    | some true, .call ⟨.builtin .append, args, ats⟩, some d =>
      match args.toList, ats.toList with
      | [x, y], [t1, t2] =>
        match P.underlying t1, P.underlying t2, σ.get x, σ.get y with
        | some (.slice e), some (.slice _), some (.v s), some (.v r) =>
          match P.info? e with
          | some info =>
            match info.zero with
            | some z => bif Nat.blt d n && Nat.beq z.cells.toList.length info.size && Nat.ble info.bytes 4096 && Nat.blt 0 info.bytes then some (s, r, info.size, info.bytes, d) else none
            | none => none
          | none => none
        | _, _, _, _ => none
      | _, _ => none
    | _, _, _ => none
  | none => none
def flatCells {α : Type} [GT α] (xs : List α) (p : Nat → GT.Ptr α) (m : Nat) : List Value := (List.range m).flatMap fun i => GT.cells (el xs i) (p i)
theorem flatCells_len {α : Type} [GT α] (xs : List α) (p : Nat → GT.Ptr α) (m : Nat) : (flatCells xs p m).length = m * GT.width α := by
  unfold flatCells
  induction m with
  | zero => simp
  | succ m ih => rw [List.range_succ, List.flatMap_append, List.length_append, ih]; simp [GT.len, Nat.add_mul]
theorem flatCells_get {α : Type} [GT α] (xs : List α) (p : Nat → GT.Ptr α) (m : Nat) : ∀ (i j : Nat), i < m → j < GT.width α → (flatCells xs p m)[i * GT.width α + j]? = (GT.cells (el xs i) (p i))[j]? := by
  induction m with
  | zero => intro i j h; omega
  | succ m ih =>
    intro i j hi hj
    have hs : flatCells xs p (m + 1) = flatCells xs p m ++ GT.cells (el xs m) (p m) := by
      unfold flatCells; rw [List.range_succ, List.flatMap_append]; simp
    rw [hs]
    have hl := flatCells_len xs p m
    by_cases h : i < m
    · have := Nat.mul_le_mul_right (GT.width α) (show i + 1 ≤ m from h)
      rw [Nat.add_mul, Nat.one_mul] at this
      rw [List.getElem?_append_left (by omega)]
      exact ih i j h hj
    · have : i = m := by omega
      subst this
      rw [List.getElem?_append_right (by omega), hl]
      congr 1
      omega
theorem flatCells_plain {α : Type} [GT α] (xs : List α) (p : Nat → GT.Ptr α) (m : Nat) : ∀ v ∈ flatCells xs p m, v.oneCell' = true := by
  intro v hv
  unfold flatCells at hv
  rw [List.mem_flatMap] at hv
  obtain ⟨i, _, h⟩ := hv
  exact GT.plain _ _ v h
theorem run_firstCells {α : Type} [GT α] {xs : List α} {p : LP α} {w : World} (hc : ∀ i, i < xs.length → CellsAt w p.1.b (p.1.off + i * GT.width α) (GT.cells (el xs i) (p.2 i))) (hn : p.1.nil = true → xs.length = 0) (s : Nat) (hs : s = GT.width α) :
    (Builtin.firstCells s xs.length (slv xs.length p.1)).run P w = .ok (flatCells xs p.2 xs.length).toArray w := by
  subst hs
  unfold slv SP.addr
  cases h : p.1.nil with
  | true =>
    have := hn h
    simp only [cond_true, Builtin.firstCells, this]
    cases p.1.ad <;> simp [flatCells, loadCells, loadCellsFrom]
  | false =>
    simp only [cond_false, Builtin.firstCells]
    have := run_loadCells_list (P := P) w ⟨p.1.b, p.1.off, none⟩ (flatCells xs p.2 xs.length) (fun k v hk => by
      have hkl : k < xs.length * GT.width α := by
        have := (List.getElem?_eq_some_iff.1 hk).1
        rwa [flatCells_len] at this
      have hdm := Nat.div_add_mod k (GT.width α)
      have hml := Nat.mod_lt k (GT.wpos (α := α))
      have hdl : k / GT.width α < xs.length := by
        rw [Nat.div_lt_iff_lt_mul GT.wpos]; exact hkl
      have e : k = k / GT.width α * GT.width α + k % GT.width α := by rw [Nat.mul_comm]; exact hdm.symm
      rw [e, flatCells_get xs p.2 xs.length _ _ hdl hml] at hk
      have := hc _ hdl _ _ hk
      rw [Addr.add_mid]
      rwa [Nat.add_assoc, ← e] at this)
    rw [flatCells_len] at this
    exact this
theorem run_append {α : Type} [GT α] {xs ys : List α} {p q : LP α} {t1 t2 e e2 ty : TypeId} {info : TypeInfo} {z : Value} {w : World} {cs : Array Value} {T : TypeId}
    (h1 : P.underlying t1 = some (.slice e)) (h2 : P.underlying t2 = some (.slice e2)) (hi : P.info? e = some info) (hz : info.zero = some z) (hzl : z.cells.toList.length = info.size) (hsz : info.size = GT.width α) (hby : info.bytes ≤ 4096) (hby0 : 0 < info.bytes)
    (hx : ∀ i, i < xs.length → CellsAt w p.1.b (p.1.off + i * GT.width α) (GT.cells (el xs i) (p.2 i))) (hxn : p.1.nil = true → p.1.cap = 0) (hxc : xs.length ≤ p.1.cap)
    (hrow : p.1.nil = false → w.heap[p.1.b]? = some (.cells cs T (0, 0)) ∧ p.1.off + p.1.cap * GT.width α ≤ cs.size)
    (hy : ∀ i, i < ys.length → CellsAt w q.1.b (q.1.off + i * GT.width α) (GT.cells (el ys i) (q.2 i))) (hyn : q.1.nil = true → ys.length = 0) (hl : xs.length + ys.length ≤ KK) :
    (p.1.nil = false ∧ xs.length + ys.length ≤ p.1.cap ∧ (Builtin.append_ #[t1, t2] ty #[slv xs.length p.1, slv ys.length q.1]).run P w = .ok (slv (xs.length + ys.length) p.1)
        (w.setRow p.1.b (cs.toList.take (p.1.off + xs.length * GT.width α) ++ flatCells ys q.2 ys.length ++ cs.toList.drop (p.1.off + xs.length * GT.width α + ys.length * GT.width α)).toArray)) ∨
    (xs.length + ys.length = 0 ∧ p.1.nil = true ∧ (Builtin.append_ #[t1, t2] ty #[slv xs.length p.1, slv ys.length q.1]).run P w = .ok (slv (xs.length + ys.length) p.1) w) ∨
    ∃ (cap : Nat) (dr : Nat) (zs : List Value), xs.length + ys.length ≤ cap ∧ cap ≤ 9223372036854775807 ∧ zs.length = (cap - (xs.length + ys.length)) * GT.width α ∧ (Builtin.append_ #[t1, t2] ty #[slv xs.length p.1, slv ys.length q.1]).run P w =
      .ok (slv (xs.length + ys.length) ⟨false, w.heap.size, 0, cap, none⟩) { w with heap := w.heap.push (.cells (flatCells xs p.2 xs.length ++ flatCells ys q.2 ys.length ++ zs).toArray e), drawn := dr } := by
  have hxnl : p.1.nil = true → xs.length = 0 := fun h => by have := hxn h; omega
  have fx := run_firstCells (P := P) hx hxnl info.size hsz
  have fy := run_firstCells (P := P) hy hyn info.size hsz
  rw [hsz] at fx fy
  have hnint : ∀ k, TypeDesc.slice e2 ≠ .int k := fun k h => by cases h
  have hmatch : (match (TypeDesc.slice e2 : TypeDesc) with | .int _ => true | _ => false) = false := rfl
  unfold KK at hl
  by_cases hfit : xs.length + ys.length ≤ p.1.cap
  · cases hnil : p.1.nil with
    | true =>
      have hc0 := hxn hnil
      right; left
      refine ⟨by omega, rfl, ?_⟩
      have ea : p.1.addr = p.1.ad := by unfold SP.addr; rw [hnil]; rfl
      have e0 : ys.length = 0 := by omega
      rw [e0] at fy
      simp only [flatCells, List.range_zero, List.flatMap_nil] at fy
      rw [e0]
      have e1 : xs.length + 0 ≤ p.1.cap := by omega
      simp only [slv, ea] at fy ⊢
      cases hadd : p.1.ad <;> simp only [Builtin.append_, List.getElem?_toArray, List.getElem?_cons_zero, List.getElem?_cons_succ, Sem.run_bind, run_underlying h1, run_underlying h2, Result.andThen_ok, sizeOf, typeInfo, run_program, hi, Sem.run_pure, Bool.false_eq_true, if_false, Builtin.lenOf, e1, if_true, Bool.not_false, hsz, fy]
      rfl
    | false =>
      left
      obtain ⟨hr, hrs⟩ := hrow hnil
      refine ⟨rfl, hfit, ?_⟩
      have ea : p.1.addr = some ⟨p.1.b, p.1.off, none⟩ := by unfold SP.addr; rw [hnil]; rfl
      have hmul : (xs.length + ys.length) * GT.width α ≤ p.1.cap * GT.width α := Nat.mul_le_mul_right _ hfit
      rw [Nat.add_mul] at hmul
      have hst := run_storeCells_at (P := P) p.1.b (p.1.off + xs.length * GT.width α) T (flatCells ys q.2 ys.length) 0 cs w hr (by rw [flatCells_len]; simp only [Nat.add_zero]; omega) (flatCells_plain _ _ _)
      simp only [Nat.add_zero] at hst
      simp only [slv, ea] at fy ⊢
      simp only [Builtin.append_, List.getElem?_toArray, List.getElem?_cons_zero, List.getElem?_cons_succ, Sem.run_bind, run_underlying h1, run_underlying h2, Result.andThen_ok, sizeOf, typeInfo, run_program, hi, Sem.run_pure, Bool.false_eq_true, if_false, Builtin.lenOf, hfit, if_true, Bool.not_false, fy, Addr.add_mid, hsz]
      rw [hst, flatCells_len]
      rfl
  · right; right
    have hnc := nextcap_le (xs.length + ys.length) p.1.cap (by omega)
    have hb : Builtin.nextslicecap (xs.length + ys.length) p.1.cap * info.bytes ≤ (2 * 4194304 + 400) * 4096 := Nat.mul_le_mul (by omega) hby
    have g1 : ¬ (((xs.length + ys.length : Nat) : Int) > IntKind.i64.max ∧ (False ∨ info.bytes = 0)) := fun h => by
      rcases h.2 with h | h
      · exact h
      · omega
    have g2 : ¬ (Builtin.nextslicecap (xs.length + ys.length) p.1.cap * info.bytes > 2 ^ 48) := by omega
    have hq : (Question.appendCap (xs.length + ys.length) p.1.cap e).forced = false := rfl
    let cap := (Question.appendCap (xs.length + ys.length) p.1.cap e).cut (w.tape w.drawn (.appendCap (xs.length + ys.length) p.1.cap e))
    have hcap : cap = (xs.length + ys.length) + w.tape w.drawn (.appendCap (xs.length + ys.length) p.1.cap e) % (2 ^ 63 - (xs.length + ys.length)) := rfl
    have hml : w.tape w.drawn (.appendCap (xs.length + ys.length) p.1.cap e) % (2 ^ 63 - (xs.length + ys.length)) < 2 ^ 63 - (xs.length + ys.length) := Nat.mod_lt _ (by omega)
    have hzero : (zeroValue e).run P { w with drawn := w.drawn + 1 } = .ok z { w with drawn := w.drawn + 1 } := by simp [zeroValue, typeInfo, hi, hz]
    have fx' := run_firstCells (P := P) (w := { w with drawn := w.drawn + 1 }) (xs := xs) (p := p) hx hxnl info.size hsz
    have fy' := run_firstCells (P := P) (w := { w with drawn := w.drawn + 1 }) (xs := ys) (p := q) hy hyn info.size hsz
    rw [hsz] at fx' fy'
    have hroom : ∀ (k : Nat) (w : World), (askRoom k).run P w = .ok () w := fun k w => by unfold askRoom; split <;> rfl
    refine ⟨cap, w.drawn + 1, (Builtin.zeroCells z.cells (cap - (xs.length + ys.length))).toList, by omega, by omega, ?_, ?_⟩
    · unfold Builtin.zeroCells
      have : z.cells.size = GT.width α := by rw [← hsz, ← hzl]; simp
      simp [this]
    · have hch : (choose (.appendCap (xs.length + ys.length) p.1.cap e)).run P w = .ok cap { w with drawn := w.drawn + 1 } := rfl
      simp only [slv] at fx' fy' ⊢
      simp only [Builtin.append_, List.getElem?_toArray, List.getElem?_cons_zero, List.getElem?_cons_succ, Sem.run_bind, run_underlying h1, run_underlying h2, Result.andThen_ok, sizeOf, typeInfo, run_program, hi, Sem.run_pure, Bool.false_eq_true, if_false, Builtin.lenOf, hfit, Bool.not_false, if_true, g1, g2, hch, hroom, hsz, fx', fy', hzero, newRow, run_newObj]
      have earr : (flatCells xs p.2 xs.length).toArray ++ (flatCells ys q.2 ys.length).toArray ++ Builtin.zeroCells z.cells (cap - (xs.length + ys.length)) = (flatCells xs p.2 xs.length ++ flatCells ys q.2 ys.length ++ (Builtin.zeroCells z.cells (cap - (xs.length + ys.length))).toList).toArray := by
        apply Array.ext'
        simp
      rw [earr]
      rfl
theorem St.append {α : Type} [GT α] {xs ys : List α} {p q : LP α} {F Fy : Bl} (S : St P n w0 M u N β σ a w) (hx : Ow w0 M u N F xs p) (hyr : Rn u N ys q)
    (hye : ∃ G : Nat → Bl, (∀ i, i < ys.length → GT.own KK (G i) u (el ys i) (q.2 i)) ∧ (∀ i, i < ys.length → ∀ b, G i b → Fy b) ∧ (∀ i j, i < ys.length → j < ys.length → i ≠ j → Disj (G i) (G j)))
    (hd : Disj F Fy) (hyN : ∀ b, Fy b → N b) (hyY : ∀ b, Fy b → w0.heap.size ≤ b ∨ M b) {i : Nat} {by' : Nat} {d : Tmp} (hop : appAc P n ops i σ = some (slv xs.length p.1, slv ys.length q.1, GT.width α, by', d)) (hl : xs.length + ys.length ≤ KK)
    (K : ∀ a' w' N' r F', St P n w0 M w' N' β ⟨(d, .v (slv (xs.length + ys.length) r.1)) :: σ.env, σ.bx⟩ a' w' → (∀ b, N b → ¬ F b → N' b ∧ w'.heap[b]? = u.heap[b]?) →
      Ow w0 M w' N' F' (xs ++ ys) r → (∀ G : Bl, Disj G F → Disj G Fy → (∀ b, G b → N b) → Disj G F') → ((∀ b, N b → N' b) ∧ (∀ i, i < xs.length → r.2 i = p.2 i) ∧ (r.1 = p.1 ∨ ∀ b, N b → w'.heap[b]? = u.heap[b]?)) → K' a' w') : wpOp P ops Q i K' a w := by
  unfold appAc at hop
  split at hop
  · rename_i o ho
    have ho' : ops[i]? = some o := by simpa using ho
    split at hop
    · rename_i args ats d' hg hopq hdst
      split at hop
      · rename_i x y t1 t2 ha ht
        split at hop
        · rename_i e e2 s r hu1 hu2 hsx hsy
          split at hop
          · rename_i info hinfo
            split at hop
            · rename_i z hz
              cases hbb : (Nat.blt d' n && Nat.beq z.cells.toList.length info.size && Nat.ble info.bytes 4096 && Nat.blt 0 info.bytes) with
              | false => rw [hbb] at hop; cases hop
              | true =>
                rw [hbb] at hop
                simp only [cond_true, Option.some.injEq, Prod.mk.injEq] at hop
                obtain ⟨rfl, rfl, hsz, _, rfl⟩ := hop
                simp only [Bool.and_eq_true] at hbb
                obtain ⟨⟨⟨b1, b2⟩, b3⟩, b4⟩ := hbb
                have e1 : args = #[x, y] := by rw [← Array.toList_inj]; exact ha
                have e2' : ats = #[t1, t2] := by rw [← Array.toList_inj]; exact ht
                subst e1 e2'
                have hox : LOwn KK F u xs p := hx.own
                have hyr' : LRd KK N u ys q := hyr
                obtain ⟨G, g1, g2, g3⟩ := hox.el
                obtain ⟨Gy, gy1, gy2, gy3⟩ := hye
                have hsep : ∀ b, N b → w.heap[b]? = u.heap[b]? := fun b hb => (S.sep b hb).2.1
                have hxc : ∀ i, i < xs.length → CellsAt w p.1.b (p.1.off + i * GT.width α) (GT.cells (el xs i) (p.2 i)) := fun i hi => by
                  have hnn := hox.nonil (by have := hox.cap; omega)
                  exact (hox.cell i hi).agree (hsep _ (hx.sub _ (hox.row hnn).1))
                have hyc : ∀ i, i < ys.length → CellsAt w q.1.b (q.1.off + i * GT.width α) (GT.cells (el ys i) (q.2 i)) := fun i hi =>
                  (hyr'.cell i hi).agree (hsep _ (hyr'.at_ (by omega)).2)
                have hyn : q.1.nil = true → ys.length = 0 := fun h => by
                  rcases Nat.eq_zero_or_pos ys.length with h0 | h0
                  · exact h0
                  · have := (hyr'.at_ h0).1; rw [h] at this; cases this
                obtain ⟨cs, T, hcs⟩ : ∃ (cs : Array Value) (T : TypeId), p.1.nil = false → w.heap[p.1.b]? = some (.cells cs T (0, 0)) ∧ p.1.off + p.1.cap * GT.width α ≤ cs.size := by
                  cases hn : p.1.nil with
                  | true => exact ⟨#[], 0, fun h => by cases h⟩
                  | false =>
                    obtain ⟨hF, cs, T, h1, h2⟩ := hox.row hn
                    exact ⟨cs, T, fun _ => ⟨(hsep _ (hx.sub _ hF)).trans h1, h2⟩⟩
                have hrun := run_append (P := P) (ty := o.type) hu1 hu2 hinfo hz (Nat.eq_of_beq_eq_true b2) hsz (Nat.le_of_ble_eq_true b3) (Nat.le_of_ble_eq_true b4) hxc hox.null hox.cap hcs hyc hyn hl
                have step : ∀ (v : Value) (w' : World), (Builtin.append_ #[t1, t2] o.type #[slv xs.length p.1, slv ys.length q.1]).run P w = .ok v w' → K' (a.put (some d') v) w' → wpOp P ops Q i K' a w := fun v w' hr hk => by
                  refine OP.step ho' (guard_ok S hg) ?_
                  have hex : (execOp a.eval o).run P w = .ok (.value v) w' := by
                    unfold execOp
                    simp only [hopq]
                    simp only [resolve, List.map_toArray, List.map_cons, List.map_nil, S.get hsx, S.get hsy]
                    show (do let v ← Builtin.append_ #[t1, t2] o.type #[slv xs.length p.1, slv ys.length q.1]; pure (Next.value v) : Sem Next).run P w = _
                    rw [Sem.run_bind, hr]
                    rfl
                  unfold Oper.wp
                  rw [hex]
                  simp only [Oper.upon, hdst]
                  exact hk
                have elapp : ∀ i, el (xs ++ ys) i = if i < xs.length then el xs i else el ys (i - xs.length) := fun i => by
                  unfold el
                  simp only [List.getD_eq_getElem?_getD, List.getElem?_append]
                  split <;> rfl
                let rp : Nat → GT.Ptr α := fun i => if i < xs.length then p.2 i else q.2 (i - xs.length)
                have hrp : ∀ i, i < xs.length → rp i = p.2 i := fun i hi => if_pos hi
                let GG : Nat → Bl := fun i => if i < xs.length then G i else Gy (i - xs.length)
                -- the elements' own blocks, in any world that leaves them as they were
                have hels : ∀ (w' : World) (b0 : Nat), (∀ b, N b → b ≠ p.1.b ∨ ¬ F b → w'.heap[b]? = u.heap[b]?) → (∀ i, i < xs.length → ∀ b, G i b → b ≠ b0) → (∀ i, i < ys.length → ∀ b, Gy i b → b ≠ b0) →
                    ∃ GG : Nat → Bl, (∀ i, i < (xs ++ ys).length → GT.own KK (GG i) w' (el (xs ++ ys) i) (rp i)) ∧ (∀ i, i < (xs ++ ys).length → ∀ b, GG i b → Or F (Or Fy (Iv w.heap.size w'.heap.size)) b ∧ b ≠ b0) ∧ (∀ i j, i < (xs ++ ys).length → j < (xs ++ ys).length → i ≠ j → Disj (GG i) (GG j)) := fun w' b0 hw' hne hney => by
                  refine ⟨GG, fun i hi => ?_, fun i hi b hb => ?_, fun i j hi hj hij => ?_⟩
                  · rw [List.length_append] at hi
                    rw [elapp]
                    by_cases h : i < xs.length
                    · simp only [GG, rp, h, if_true]
                      exact GT.own_agree (g1 i h) fun b hb _ => hw' b (hx.sub b (g2 i h b hb).1) (.inl (g2 i h b hb).2)
                    · simp only [GG, rp, h, if_false]
                      have hi' : i - xs.length < ys.length := by omega
                      exact GT.own_agree (gy1 _ hi') fun b hb _ => hw' b (hyN b (gy2 _ hi' b hb)) (.inr fun hF => hd b hF (gy2 _ hi' b hb))
                  · rw [List.length_append] at hi
                    by_cases h : i < xs.length
                    · simp only [GG, h, if_true] at hb
                      exact ⟨.inl (g2 i h b hb).1, hne i h b hb⟩
                    · simp only [GG, h, if_false] at hb
                      have hi' : i - xs.length < ys.length := by omega
                      exact ⟨.inr (.inl (gy2 _ hi' b hb)), hney _ hi' b hb⟩
                  · rw [List.length_append] at hi hj
                    intro b hb hb'
                    by_cases h : i < xs.length <;> by_cases h' : j < xs.length
                    · simp only [GG, h, h', if_true] at hb hb'
                      exact g3 i j h h' hij b hb hb'
                    · simp only [GG, h, h', if_true, if_false] at hb hb'
                      exact hd b (g2 i h b hb).1 (gy2 _ (by omega) b hb')
                    · simp only [GG, h, h', if_true, if_false] at hb hb'
                      exact hd b (g2 j h' b hb').1 (gy2 _ (by omega) b hb)
                    · simp only [GG, h, h', if_false] at hb hb'
                      exact gy3 _ _ (by omega) (by omega) (by omega) b hb hb'
                have hfr : ∀ w' : World, ∀ b, Or F (Or Fy (Iv w.heap.size w'.heap.size)) b → Or N (Iv w.heap.size w'.heap.size) b := fun w' b h => by
                  rcases h with h | h | h
                  · exact .inl (hx.sub b h)
                  · exact .inl (hyN b h)
                  · exact .inr h
                have hyo : ∀ w' : World, ∀ b, Or F (Or Fy (Iv w.heap.size w'.heap.size)) b → w0.heap.size ≤ b ∨ M b := fun w' b h => by
                  rcases h with h | h | h
                  · exact hx.young b h
                  · exact hyY b h
                  · exact .inl (Nat.le_trans S.chg.size h.1)
                have hdis : ∀ (w' : World) (G : Bl), Disj G F → Disj G Fy → (∀ b, G b → N b) → Disj G (Or F (Or Fy (Iv w.heap.size w'.heap.size))) := fun w' G d1 d2 hs b hb h => by
                  rcases h with h | h | h
                  · exact d1 b hb h
                  · exact d2 b hb h
                  · have := (S.sep b (hs b hb)).1
                    have := h.1
                    omega
                have hput : ∀ (w' : World) (N' : Bl) (v : Value), St P n w0 M w' N' β σ a w' → St P n w0 M w' N' β ⟨(d', .v v) :: σ.env, σ.bx⟩ (a.put (some d') v) w' := fun w' N' v S' =>
                  S'.put (look_put b1) (fun _ _ e => by cases e)
                rcases hrun with ⟨hnil, hfit, hr⟩ | ⟨h0, hnil, hr⟩ | ⟨cap, dr, zs, hc1, hc2, hzs, hr⟩
                · -- in place
                  obtain ⟨hrow, hrsz⟩ := hcs hnil
                  have hFb := (hox.row hnil).1
                  refine step _ _ hr ?_
                  have hoth : ∀ b, b ≠ p.1.b → (w.setRow p.1.b (cs.toList.take (p.1.off + xs.length * GT.width α) ++ flatCells ys q.2 ys.length ++ cs.toList.drop (p.1.off + xs.length * GT.width α + ys.length * GT.width α)).toArray).heap[b]? = w.heap[b]? := fun b hb => by
                    simp only [World.setRow, Array.getElem?_modify]
                    rw [if_neg (fun e => hb e.symm)]
                  have hwsz : (w.setRow p.1.b (cs.toList.take (p.1.off + xs.length * GT.width α) ++ flatCells ys q.2 ys.length ++ cs.toList.drop (p.1.off + xs.length * GT.width α + ys.length * GT.width α)).toArray).heap.size = w.heap.size := by simp [World.setRow]
                  have hnew := setRow_heap w p.1.b cs (cs.toList.take (p.1.off + xs.length * GT.width α) ++ flatCells ys q.2 ys.length ++ cs.toList.drop (p.1.off + xs.length * GT.width α + ys.length * GT.width α)).toArray T (0, 0) hrow
                  have hmul : (xs.length + ys.length) * GT.width α ≤ p.1.cap * GT.width α := Nat.mul_le_mul_right _ hfit
                  rw [Nat.add_mul] at hmul
                  have hlen := flatCells_len ys q.2 ys.length
                  have hcell : ∀ pos, (w.setRow p.1.b (cs.toList.take (p.1.off + xs.length * GT.width α) ++ flatCells ys q.2 ys.length ++ cs.toList.drop (p.1.off + xs.length * GT.width α + ys.length * GT.width α)).toArray).cell? ⟨p.1.b, pos, none⟩ =
                      if pos < p.1.off + xs.length * GT.width α then cs[pos]? else if pos < p.1.off + xs.length * GT.width α + ys.length * GT.width α then (flatCells ys q.2 ys.length)[pos - (p.1.off + xs.length * GT.width α)]? else cs[pos]? := fun pos => by
                    simp only [World.cell?, hnew, Option.isSome_none, Bool.false_eq_true, if_false]
                    have := splice_get cs.toList (flatCells ys q.2 ys.length) (p.1.off + xs.length * GT.width α) pos (by rw [hlen]; simp; omega)
                    rw [hlen] at this
                    simpa using this
                  generalize hw' : w.setRow p.1.b (cs.toList.take (p.1.off + xs.length * GT.width α) ++ flatCells ys q.2 ys.length ++ cs.toList.drop (p.1.off + xs.length * GT.width α + ys.length * GT.width α)).toArray = w' at *
                  have hch : Chg F w w' := by
                    subst hw'
                    exact ⟨rfl, rfl, rfl, by rw [hwsz]; exact Nat.le_refl _, fun b _ hn => hoth b (fun e => hn (e ▸ hFb))⟩
                  have hwu : ∀ b, N b → b ≠ p.1.b ∨ ¬ F b → w'.heap[b]? = u.heap[b]? := fun b hb hne => (hoth b (hne.elim id (fun h e => h (e ▸ hFb)))).trans (hsep b hb)
                  obtain ⟨GG', e1, e2, e3⟩ := hels w' p.1.b hwu (fun i hi b hb => (g2 i hi b hb).2) (fun i hi b hb e => hd _ (e ▸ hFb) (gy2 i hi b hb))
                  refine K _ w' _ (p.1, rp) (Or F (Or Fy (Iv w.heap.size w'.heap.size))) (hput w' _ _ (S.afterF hch hx.sub hx.young)) (S.upF hch) ⟨?_, hfr w', hyo w'⟩ (hdis w') ⟨fun _ => .inl, hrp, .inl rfl⟩
                  refine ⟨by rw [List.length_append]; exact hl, by rw [List.length_append]; exact hfit, hox.capm, hox.null, fun _ => ⟨.inl hFb, _, T, hnew, ?_⟩, fun i hi => ?_, GG', e1, e2, e3⟩
                  · have : (cs.toList.take (p.1.off + xs.length * GT.width α) ++ flatCells ys q.2 ys.length ++ cs.toList.drop (p.1.off + xs.length * GT.width α + ys.length * GT.width α)).toArray.size = cs.size := by simp [hlen]; omega
                    rw [this]; exact hrsz
                  · rw [List.length_append] at hi
                    rw [elapp]
                    intro j v hv
                    have hjl : j < GT.width α := by
                      have := (List.getElem?_eq_some_iff.1 hv).1
                      rwa [GT.len] at this
                    rw [hcell]
                    by_cases h : i < xs.length
                    · simp only [h, if_true, rp] at hv
                      have := Nat.mul_le_mul_right (GT.width α) (show i + 1 ≤ xs.length from h)
                      rw [Nat.add_mul, Nat.one_mul] at this
                      simp only []
                      rw [if_pos (by omega)]
                      have := hxc i h j v hv
                      simpa [World.cell?, hrow] using this
                    · simp only [h, if_false, rp] at hv
                      have hi' : i - xs.length < ys.length := by omega
                      have h1 := Nat.mul_le_mul_right (GT.width α) (show i - xs.length + 1 ≤ ys.length from hi')
                      rw [Nat.add_mul, Nat.one_mul] at h1
                      have h2 : i * GT.width α = xs.length * GT.width α + (i - xs.length) * GT.width α := by
                        rw [← Nat.add_mul]; congr 1; omega
                      simp only []
                      rw [if_neg (by omega), if_pos (by omega)]
                      have := flatCells_get ys q.2 ys.length (i - xs.length) j hi' hjl
                      rw [← hv, ← this]
                      congr 1
                      omega
                · -- nothing at all
                  refine step _ _ hr ?_
                  have hch : Chg F w w := Chg.refl _ _
                  have ex : xs.length = 0 := by omega
                  have ey : ys.length = 0 := by omega
                  refine K _ w _ (p.1, rp) (Or F (Or Fy (Iv w.heap.size w.heap.size))) (hput w _ _ (S.afterF hch hx.sub hx.young)) (S.upF hch) ⟨?_, hfr w, hyo w⟩ (hdis w) ⟨fun _ => .inl, hrp, .inl rfl⟩
                  have hlen : (xs ++ ys).length = 0 := by rw [List.length_append]; exact h0
                  exact ⟨by rw [hlen]; exact Nat.zero_le _, by rw [hlen]; exact Nat.zero_le _, hox.capm, hox.null, fun h => (by rw [hnil] at h; cases h), fun i hi => (by omega), fun _ => NoB, fun i hi => (by omega), fun i hi => (by omega), fun i j hi => (by omega)⟩
                · -- a new block
                  refine step _ _ hr ?_
                  have hch0 : Chg NoB w { w with heap := w.heap.push (.cells (flatCells xs p.2 xs.length ++ flatCells ys q.2 ys.length ++ zs).toArray e), drawn := dr } :=
                    ⟨rfl, rfl, rfl, by simp, fun k hk _ => by simp [Array.getElem?_push, Nat.ne_of_lt hk]⟩
                  have hnew : ({ w with heap := w.heap.push (.cells (flatCells xs p.2 xs.length ++ flatCells ys q.2 ys.length ++ zs).toArray e), drawn := dr } : World).heap[w.heap.size]? = some (.cells (flatCells xs p.2 xs.length ++ flatCells ys q.2 ys.length ++ zs).toArray e) := by simp
                  have hwsz : ({ w with heap := w.heap.push (.cells (flatCells xs p.2 xs.length ++ flatCells ys q.2 ys.length ++ zs).toArray e), drawn := dr } : World).heap.size = w.heap.size + 1 := by simp
                  generalize hw' : ({ w with heap := w.heap.push (.cells (flatCells xs p.2 xs.length ++ flatCells ys q.2 ys.length ++ zs).toArray e), drawn := dr } : World) = w' at *
                  have hch : Chg F w w' := hch0.mono fun _ f => f.elim
                  have hall : ∀ b, N b → w'.heap[b]? = u.heap[b]? := fun b hb => (hch0.block b (S.sep b hb).1 (fun f => f)).trans (hsep b hb)
                  have hwu : ∀ b, N b → b ≠ p.1.b ∨ ¬ F b → w'.heap[b]? = u.heap[b]? := fun b hb _ => hall b hb
                  have hltN : ∀ b, N b → b ≠ w.heap.size := fun b hb => Nat.ne_of_lt (S.sep b hb).1
                  obtain ⟨GG', e1, e2, e3⟩ := hels w' w.heap.size hwu (fun i hi b hb => hltN b (hx.sub b (g2 i hi b hb).1)) (fun i hi b hb => hltN b (hyN b (gy2 i hi b hb)))
                  refine K _ w' _ (⟨false, w.heap.size, 0, cap, none⟩, rp) (Or F (Or Fy (Iv w.heap.size w'.heap.size))) (hput w' _ _ (S.afterF hch hx.sub hx.young)) (S.upF hch) ⟨?_, hfr w', hyo w'⟩ (hdis w') ⟨fun _ => .inl, hrp, .inr hall⟩
                  have hlx := flatCells_len xs p.2 xs.length
                  have hly := flatCells_len ys q.2 ys.length
                  refine ⟨by rw [List.length_append]; exact hl, by rw [List.length_append]; exact hc1, hc2, fun h => (by cases h), fun _ => ⟨.inr (.inr ⟨Nat.le_refl _, by show w.heap.size < w'.heap.size; omega⟩), _, e, hnew, ?_⟩, fun i hi => ?_, GG', e1, e2, e3⟩
                  · simp only [List.size_toArray, List.length_append, hlx, hly, hzs, Nat.zero_add]
                    rw [← Nat.add_mul, ← Nat.add_mul]
                    exact Nat.mul_le_mul_right _ (by omega)
                  · rw [List.length_append] at hi
                    rw [elapp]
                    intro j v hv
                    have hjl : j < GT.width α := by
                      have := (List.getElem?_eq_some_iff.1 hv).1
                      rwa [GT.len] at this
                    simp only [World.cell?, hnew, Option.isSome_none, Bool.false_eq_true, if_false, Nat.zero_add, List.getElem?_toArray]
                    by_cases h : i < xs.length
                    · simp only [h, if_true, rp] at hv
                      have := Nat.mul_le_mul_right (GT.width α) (show i + 1 ≤ xs.length from h)
                      rw [Nat.add_mul, Nat.one_mul] at this
                      rw [List.append_assoc, List.getElem?_append_left (by omega), flatCells_get xs p.2 xs.length i j h hjl]
                      exact hv
                    · simp only [h, if_false, rp] at hv
                      have hi' : i - xs.length < ys.length := by omega
                      have h1 := Nat.mul_le_mul_right (GT.width α) (show i - xs.length + 1 ≤ ys.length from hi')
                      rw [Nat.add_mul, Nat.one_mul] at h1
                      have h2 : i * GT.width α = xs.length * GT.width α + (i - xs.length) * GT.width α := by
                        rw [← Nat.add_mul]; congr 1; omega
                      rw [List.append_assoc, List.getElem?_append_right (by omega), hlx, List.getElem?_append_left (by omega)]
                      have := flatCells_get ys q.2 ys.length (i - xs.length) j hi' hjl
                      rw [← hv, ← this]
                      congr 1
                      omega
            · cases hop
          · cases hop
        · cases hop
      · cases hop
    · cases hop
  · cases hop
theorem St.appFlat {α : Type} [GT α] {xs ys : List α} {p q : LP α} {F : Bl} (S : St P n w0 M u N β σ a w) (hx : Ow w0 M u N F xs p) (hyr : Rn u N ys q) (hfl : ∀ (x : α) (r : GT.Ptr α), GT.rd KK N u x r → GT.own KK NoB u x r)
    {i : Nat} {by' lx ly : Nat} {d : Tmp} (hlx : lx = xs.length) (hly : ly = ys.length) (hop : appAc P n ops i σ = some (slv lx p.1, slv ly q.1, GT.width α, by', d)) (hl : xs.length + ys.length ≤ KK)
    (K : ∀ a' w' N' r F', St P n w0 M w' N' β ⟨(d, .v (slv (xs ++ ys).length r.1)) :: σ.env, σ.bx⟩ a' w' → (∀ b, N b → ¬ F b → N' b ∧ w'.heap[b]? = u.heap[b]?) →
      Ow w0 M w' N' F' (xs ++ ys) r → (∀ G : Bl, Disj G F → (∀ b, G b → N b) → Disj G F') → K' a' w') : wpOp P ops Q i K' a w := by
  subst hlx hly
  exact S.append hx hyr (Fy := NoB) ⟨fun _ => NoB, fun i hi => hfl _ _ (LRd.el hyr i hi), fun _ _ b h => False.elim h, fun _ _ _ _ _ b h => False.elim h⟩ (fun b _ h => False.elim h) (fun b h => False.elim h) (fun b h => False.elim h) hop hl
    fun a' w' N' r F' h1 h2 h3 h4 _ => K a' w' N' r F' (by rw [List.length_append]; exact h1) h2 h3 fun G g1 g2 => h4 G g1 (fun b _ h => False.elim h) g2
theorem St.appFlat0 {α : Type} [GT α] {ys : List α} {p q : LP α} {F : Bl} (S : St P n w0 M u N β σ a w) (hx : Ow w0 M u N F ([] : List α) p) (hyr : Rn u N ys q) (hfl : ∀ (x : α) (r : GT.Ptr α), GT.rd KK N u x r → GT.own KK NoB u x r)
    {i : Nat} {by' lx ly : Nat} {d : Tmp} (hly : ly = ys.length)
    (K : ∀ a' w' N' r F', St P n w0 M w' N' β ⟨(d, .v (slv ys.length r.1)) :: σ.env, σ.bx⟩ a' w' → (∀ b, N b → ¬ F b → N' b ∧ w'.heap[b]? = u.heap[b]?) →
      Ow w0 M w' N' F' ys r → (∀ G : Bl, Disj G F → (∀ b, G b → N b) → Disj G F') → K' a' w') (hlx : lx = 0 := by rfl) (hop : appAc P n ops i σ = some (slv lx p.1, slv ly q.1, GT.width α, by', d) := by kernel_rfl) : wpOp P ops Q i K' a w :=
  S.appFlat hx hyr hfl (lx := lx) (ly := ly) hlx hly hop (by rw [List.length_nil, Nat.zero_add]; exact LRd.le hyr) K
theorem St.appOwn {α : Type} [GT α] {xs ys : List α} {p q : LP α} {F Fy : Bl} (S : St P n w0 M u N β σ a w) (hx : Ow w0 M u N F xs p) (hy : Ow w0 M u N Fy ys q) (hd : Disj F Fy)
    {i : Nat} {by' lx ly : Nat} {d : Tmp} (hlx : lx = xs.length) (hly : ly = ys.length) (hop : appAc P n ops i σ = some (slv lx p.1, slv ly q.1, GT.width α, by', d)) (hl : xs.length + ys.length ≤ KK)
    (K : ∀ a' w' N' r F', St P n w0 M w' N' β ⟨(d, .v (slv (xs ++ ys).length r.1)) :: σ.env, σ.bx⟩ a' w' → (∀ b, N b → ¬ F b → N' b ∧ w'.heap[b]? = u.heap[b]?) →
      Ow w0 M w' N' F' (xs ++ ys) r → (∀ G : Bl, Disj G F → Disj G Fy → (∀ b, G b → N b) → Disj G F') → K' a' w') : wpOp P ops Q i K' a w := by
  subst hlx hly
  obtain ⟨G, g1, g2, g3⟩ := LOwn.el hy.own
  exact S.append hx hy.rn ⟨G, g1, fun i hi b hb => (g2 i hi b hb).1, g3⟩ hd hy.sub hy.young hop hl
    fun a' w' N' r F' h1 h2 h3 h4 _ => K a' w' N' r F' (by rw [List.length_append]; exact h1) h2 h3 h4
abbrev Zc (α : Type) [GT α] : List Value := GT.cells (GT.dflt : α) GT.pdflt
theorem retI {x y : Int} (h : x = y) : Ending.returned (packed [I x]) = .returned (I y) := by rw [h]; rfl
theorem retB {x y : Bool} (h : x = y) : Ending.returned (packed [B x]) = .returned (B y) := by rw [h]; rfl
theorem retV {α : Type} [GT α] {x y : α} {p : GT.Ptr α} (h : x = y) : Ending.returned (packed [GT.val x p]) = .returned (GT.val y p) := by rw [h]; rfl
theorem ret2v {a b c d : Value} (h : a = c) (h' : b = d) : Ending.returned (packed [a, b]) = .returned (.tuple #[c, d]) := by rw [h, h']; rfl
theorem ret1_of {α : Type} [GT α] {r x : α} {p : GT.Ptr α} {F : Bl} {v : Value} (S : St P n w0 NoB u N β σ a w) (h : r = x) (hv : v = GT.val x p) (o : Ow w0 NoB u N F x p) : Ret1 NoB w0 r (.returned (packed [v])) w := by
  subst h hv
  exact ⟨p, rfl, S.chg, S.own o⟩
def RetM {α : Type} [GT α] (F : Bl) (w : World) (p : GT.Ptr α) (x x' : α) (k : Int) (e : Ending) (w' : World) : Prop :=
  e = .returned (I k) ∧ Chg F w w' ∧ ∃ p', GT.cells x' p' = GT.cells x p ∧ GT.own KK F w' x' p'
theorem St.ownw {α : Type} [GT α] {F : Bl} {x : α} {p : GT.Ptr α} (S : St P n w0 M u N β σ a w) (h : Ow w0 M u N F x p) : GT.own KK F w x p :=
  GT.own_agree h.own (fun b hb _ => (S.sep b (h.sub b hb)).2.1)
end
end Go.Proofs.Ytgonaioedbphgaa
