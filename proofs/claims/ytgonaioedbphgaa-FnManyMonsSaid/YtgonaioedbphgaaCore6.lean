/- A region that draws its order and only asks: one walk in the text's order. No program is named here. -/
import Derived.Test.YtgonaioedbphgaaCore5
import Derived.Deep.Quiet
import Derived.IntWalk
namespace Go.Proofs.Ytgonaioedbphgaa
open Go
def evD (P : Program) (n : Nat) (ops : Array Oper) : List Oper → Sy → List Value → Option (Sy × List (Ask × Value))
  | [], σ, _ => some (σ, [])
  | o :: r, σ, orc =>
    match guardv ops σ o with
    | none => none
    | some false => (σ.put n o.dst (.v undef)).bind fun σ' => evD P n ops r σ' orc
    | some true =>
      match opAc P σ o with
      | some (.val x) => (σ.put n o.dst x).bind fun σ' => evD P n ops r σ' orc
      | some (.ask q) =>
        match orc with
        | [] => none
        | v :: orc' => (σ.put n o.dst (.v v)).bind fun σ' => (evD P n ops r σ' orc').map fun x => (x.1, (q, v) :: x.2)
      | _ => none
def evDK (P : Program) (n : Nat) (ops : Array Oper) (σ : Sy) (orc : List Value) (keep : List Nat) (m : Nat) : Option (Sy × List (Ask × Value)) :=
  (evD P n ops ops.toList σ orc).map fun x => (⟨x.1.keep m keep, x.1.bx.take m⟩, x.2)
section
variable {P : Program} {n : Nat} {w0 : World} {M : Bl} {u : World} {N : Bl} {β : Nat → Nat} {σ σ' : Sy} {a : Act} {w : World} {ops : Array Oper} {Q : Exit → Act → World → Prop}
theorem evD_sound (wd : World) (σ' : Sy) (Q' : Act → Prop) : ∀ (l : List Oper) (σ : Sy) (a : Act) (claims : List (Ask × Value)),
    evD P n ops l σ (claims.map (·.2)) = some (σ', claims) → AllQ P u N claims → St P n w0 M u N β σ a wd →
    (∀ a', St P n w0 M u N β σ' a' wd → Q' a') → wpQuiet P ops (fun w' => Chg NoB wd w') Q' l a
  | [], σ, a, claims, hev, _, S, K => by
    simp only [evD, Option.some.injEq, Prod.mk.injEq] at hev
    obtain ⟨rfl, _⟩ := hev
    exact K a S
  | o :: l, σ, a, claims, hev, hq, S, K => by
    have IH := evD_sound wd σ' Q' l
    simp only [wpQuiet]
    simp only [evD] at hev
    split at hev
    · cases hev
    · rename_i hg
      rw [guard_ok S hg]
      simp only [Bool.false_eq_true, if_false]
      cases hp : σ.put n o.dst (.v undef) with
      | none => rw [hp] at hev; cases hev
      | some σ1 =>
        rw [hp] at hev
        exact IH σ1 _ claims hev hq (S.put hp (fun _ _ e => by cases e)) K
    · rename_i hg
      rw [guard_ok S hg]
      simp only [if_true]
      split at hev
      · rename_i x hx
        cases hp : σ.put n o.dst x with
        | none => rw [hp] at hev; cases hev
        | some σ1 =>
          rw [hp] at hev
          refine ⟨x.val β, fun w hw => ?_, IH σ1 _ claims hev hq (S.put hp (op_says S hx).2) K⟩
          unfold Oper.quietAt
          rw [(op_says (S.ext hw) hx).1]
          exact ⟨rfl, rfl⟩
      · rename_i q hx
        split at hev
        · cases hev
        · rename_i v orc he
          cases hp : σ.put n o.dst (.v v) with
          | none => rw [hp] at hev; cases hev
          | some σ1 =>
            rw [hp] at hev
            simp only [Option.bind_some] at hev
            cases hr : evD P n ops l σ1 orc with
            | none => rw [hr] at hev; cases hev
            | some r =>
              rw [hr] at hev
              simp only [Option.map_some, Option.some.injEq, Prod.mk.injEq] at hev
              obtain ⟨e1, e2⟩ := hev
              subst e2
              simp only [List.map_cons, List.cons.injEq, true_and] at he
              refine ⟨v, fun w hw => ?_, IH σ1 _ r.2 (by rw [he, hr, ← e1]) hq.2 (S.put hp (fun _ _ e => by cases e)) K⟩
              have S' := S.ext hw
              have h1 := op_says S' hx
              unfold Oper.quietAt
              cases q with
              | call f args =>
                simp only [Says] at h1
                rw [h1]
                exact ⟨rfl, (hq.1 w (fun b hb => ⟨(S'.sep b hb).1, (S'.sep b hb).2.1⟩)).mono fun e w' ⟨h3, h4⟩ => ⟨h3, hw.trans h4⟩⟩
              | _ =>
                rw [h1 v (hq.1 w (fun b hb => (S'.sep b hb).2.1))]
                exact ⟨rfl, rfl⟩
      · cases hev
theorem St.drawn (S : St P n w0 M u N β σ a w) {id : Nat} {claims : List (Ask × Value)} {keep : List Nat} {m : Nat} (hq : AllQ P u N claims)
    (hm : P.follows .mixedOrders = true) (hB : Region.lexB .any ops = true)
    (hev : evDK P n ops σ (claims.map (·.2)) keep m = some (σ', claims)) (K : ∀ a' w', St P n w0 M u N β σ' a' w' → Q .normal a' w') : (Code.region id ops true).wp P Q a w := by
  unfold evDK at hev
  cases hr : evD P n ops ops.toList σ (claims.map (·.2)) with
  | none => rw [hr] at hev; cases hev
  | some r =>
    rw [hr] at hev
    simp only [Option.map_some, Option.some.injEq, Prod.mk.injEq] at hev
    obtain ⟨e1, e2⟩ := hev
    have S1 : St P n w0 M u N β σ a { w with drawn := w.drawn + 1 } := S.ext (Chg.draw NoB w _)
    refine wp_region_quiet (C := fun w' => Chg NoB { w with drawn := w.drawn + 1 } w') hm hB (Chg.refl _ _) ?_
    refine evD_sound _ r.1 _ ops.toList σ a claims (by rw [hr, ← e2]) hq S1 fun a' S' w' hw' => ?_
    subst e1
    refine K a' w' ((S'.ext hw').weaken m keep fun t k o h => ?_)
    have h1 := look_keep m keep t _ h
    have h2 := S'.ok t k o h1.1
    have h3 := h1.2 k o rfl
    simp; omega
end
section
variable {P : Program} {u : World} {N : Bl}
theorem In64.lo {x : Int} (h : In64 x) : -9223372036854775808 ≤ x := h.1
theorem In64.hi {x : Int} (h : In64 x) : x ≤ 9223372036854775807 := h.2
theorem wrap_in {x : Int} (h : In64 x) : IntKind.i64.wrap x = x := Go.IntWalk.i64_in x ⟨h.1, by have := h.2; omega⟩
theorem Q_add {x y : Int} (h : In64 (x + y)) : Quiet1 P u N (.int .add .i64 x y) (I (x + y)) := fun w _ => by
  show Result.ok (Value.int .i64 (IntKind.i64.wrap (x + y))) w = _
  rw [wrap_in h]
theorem Q_addw {x y : Int} : Quiet1 P u N (.int .add .i64 x y) (I (IntKind.i64.wrap (x + y))) := fun _ _ => rfl
theorem Q_sub {x y : Int} (h : In64 (x - y)) : Quiet1 P u N (.int .sub .i64 x y) (I (x - y)) := fun w _ => by
  show Result.ok (Value.int .i64 (IntKind.i64.wrap (x - y))) w = _
  rw [wrap_in h]
theorem Q_mul {x y : Int} (h : In64 (x * y)) : Quiet1 P u N (.int .mul .i64 x y) (I (x * y)) := fun w _ => by
  show Result.ok (Value.int .i64 (IntKind.i64.wrap (x * y))) w = _
  rw [wrap_in h]
theorem Q_rem {x y : Int} (h : y ≠ 0) : Quiet1 P u N (.int .rem .i64 x y) (I (x.tmod y)) := fun w _ => by
  show (Op.intDiv .rem .i64 x y).run P w = _
  unfold Op.intDiv
  rw [if_neg h]; rfl
def land64 (x y : Int) : Int := IntKind.i64.wrap ((BitVec.ofInt 64 x &&& BitVec.ofInt 64 y).toNat)
def lor64 (x y : Int) : Int := IntKind.i64.wrap ((BitVec.ofInt 64 x ||| BitVec.ofInt 64 y).toNat)
def lxor64 (x y : Int) : Int := IntKind.i64.wrap ((BitVec.ofInt 64 x ^^^ BitVec.ofInt 64 y).toNat)
def landn64 (x y : Int) : Int := IntKind.i64.wrap ((BitVec.ofInt 64 x &&& ~~~ BitVec.ofInt 64 y).toNat)
theorem wrap_in64 (x : Int) : In64 (IntKind.i64.wrap x) := by
  rw [IntKind.wrap_i64]; exact ⟨by omega, by omega⟩
theorem Q_land64 {x y : Int} : Quiet1 P u N (.int .and .i64 x y) (I (land64 x y)) := fun _ _ => rfl
theorem Q_lxor64 {x y : Int} : Quiet1 P u N (.int .xor .i64 x y) (I (lxor64 x y)) := fun _ _ => rfl
def shl64 (x y : Int) : Int := IntKind.i64.wrap (x * 2 ^ (min y.toNat 64))
def shr64 (x y : Int) : Int := x.fdiv (2 ^ (min y.toNat 64))
theorem Q_shr {yk : IntKind} {x y : Int} (h : 0 ≤ y) : Quiet1 P u N (.sem (Op.shift .shr .i64 x yk y)) (I (shr64 x y)) := fun w _ => by
  show (Op.shift .shr .i64 x yk y).run P w = _
  unfold Op.shift
  rw [if_neg (by omega)]; rfl
theorem Q_convu {s d : TypeId} {ts : TypeDesc} {x : Int} (hs : P.underlying s = some ts) (hd : P.underlying d = some (.int .u64)) (h0 : 0 ≤ x) (h1 : x ≤ 9223372036854775807) : Quiet1 P u N (.sem (Go.convert s d (I x))) (.int .u64 x) := fun w _ => by
  show (Go.convert s d (.int .i64 x)).run P w = _
  unfold Go.convert
  simp only [Sem.run_bind, run_underlying hs, run_underlying hd, Result.andThen_ok]
  have e : IntKind.u64.wrap x = x := Go.IntWalk.u64_in x ⟨h0, by omega⟩
  unfold Conv.intToInt
  rw [e]
  cases ts <;> rfl
section lists
variable {α : Type} [GT α] {xs : List α} {p : GT.Ptr (List α)}
theorem Q_idx {K : Nat} (h : GT.rd K N u xs p) {t e : TypeId} {i : Int} {k l : Nat} (hl : l = xs.length) (hk : i = k) (hi : k < xs.length) (ht : P.underlying t = some (.slice e)) (he : tsize P e = some (GT.width α)) :
    Quiet1 P u N (.idx t (slv l p.1) (I i)) (pt p.1.b (p.1.off + k * GT.width α)) := fun w _ => by
  subst hl
  have hnn := (LRd.at_ h (by omega)).1
  subst hk
  have ea : p.1.addr = some ⟨p.1.b, p.1.off, none⟩ := by unfold SP.addr; rw [hnn]; rfl
  show (Instr.indexAt t (.slice p.1.addr xs.length p.1.cap) (.int .i64 k)).run P w = _
  unfold Instr.indexAt
  simp only [asIntOf, Sem.run_bind, Sem.run_pure, Result.andThen_ok, run_underlying ht, ea]
  have hlt : 0 ≤ (k : Int) ∧ (k : Int) < xs.length := ⟨by omega, by omega⟩
  simp only [hlt, and_self, if_true, Sem.run_bind, run_size he, Result.andThen_ok, Sem.run_pure, Int.toNat_natCast, Addr.add_mid]
theorem cells_of {K : Nat} (h : GT.rd K N u xs p) {k : Nat} (hi : k < xs.length) {w : World} (hw : ∀ b, N b → w.heap[b]? = u.heap[b]?) : CellsAt w p.1.b (p.1.off + k * GT.width α) (GT.cells (el xs k) (p.2 k)) := by
  have h1 := LRd.cell h k hi
  intro j v hj
  rw [← h1 j v hj]
  exact cell?_congr (hw _ (LRd.at_ h (by omega)).2)
theorem Q_cell {K : Nat} (h : GT.rd K N u xs p) {t : TypeId} {k j : Nat} {v : Value} (hi : k < xs.length) (hj : (GT.cells (el xs k) (p.2 k))[j]? = some v) (ht : tagg P t = some false) :
    Quiet1 P u N (.load t (pt p.1.b (p.1.off + k * GT.width α + j))) v := fun w hw => by
  have := cells_of h hi hw j v hj
  show (Instr.loadAt t (.pointer (some ⟨p.1.b, _, none⟩))).run P w = _
  simp only [Instr.loadAt, Instr.sureAddr, Sem.run_bind, Sem.run_pure, Result.andThen_ok, loadVar, run_agg_false ht, Bool.false_eq_true, if_false, run_load, this]
theorem Q_el1 {K : Nat} (h : GT.rd K N u xs p) {t : TypeId} {k : Nat} (hi : k < xs.length) (ha : GT.agg α = false) (ht : tagg P t = some false) :
    Quiet1 P u N (.load t (pt p.1.b (p.1.off + k * GT.width α))) (GT.val (el xs k) (p.2 k)) := by
  have hl := GT.len (el xs k) (p.2 k)
  rw [GT.one ha] at hl
  match hc : GT.cells (el xs k) (p.2 k), hl with
  | [v], _ =>
    have e : GT.val (el xs k) (p.2 k) = v := by unfold GT.val; rw [ha, hc]; rfl
    rw [e]
    have := Q_cell (P := P) (j := 0) h hi (v := v) (by rw [hc]; rfl) ht
    simpa using this
theorem Q_sub_el {K : Nat} (h : GT.rd K N u xs p) {t : TypeId} {k j s : Nat} (hi : k < xs.length) (ha : tagg P t = some true) (hs : tsize P t = some s) (hjs : j + s ≤ GT.width α) :
    Quiet1 P u N (.load t (pt p.1.b (p.1.off + k * GT.width α + j))) (.agg (((GT.cells (el xs k) (p.2 k)).drop j).take s).toArray) := fun w hw => by
  obtain ⟨d, hd, hr⟩ := tagg_true ha
  have hc := cells_of h hi hw
  refine run_loadAt_mid w _ _ t _ d (fun i v hv => ?_) hd hr ?_
  · rw [List.getElem?_take] at hv
    split at hv
    · rw [List.getElem?_drop] at hv
      have := hc _ _ hv
      rwa [← Nat.add_assoc] at this
    · cases hv
  · rw [tsize_some hs, List.length_take, List.length_drop, GT.len]
    congr 1
    omega
theorem Q_el {K : Nat} (h : GT.rd K N u xs p) {t : TypeId} {k : Nat} (hi : k < xs.length) (hg : GT.agg α = true) (ha : tagg P t = some true) (hs : tsize P t = some (GT.width α)) :
    Quiet1 P u N (.load t (pt p.1.b (p.1.off + k * GT.width α))) (GT.val (el xs k) (p.2 k)) := by
  have := Q_sub_el (P := P) (j := 0) h hi ha hs (by omega)
  have e : GT.val (el xs k) (p.2 k) = .agg (((GT.cells (el xs k) (p.2 k)).drop 0).take (GT.width α)).toArray := by
    unfold GT.val
    rw [hg, List.drop_zero, List.take_of_length_le (by rw [GT.len]; exact Nat.le_refl _)]
    rfl
  rw [e]
  simpa using this
end lists
theorem Q_sem {s : Sem Value} {v : Value} (h : ∀ w, s.run P w = .ok v w) : Quiet1 P u N (.sem s) v := fun w _ => h w
theorem Q_call {f : FuncId} {args : List Value} {v : Value} (h : ∀ w, (∀ b, N b → b < w.heap.size ∧ w.heap[b]? = u.heap[b]?) → Calls P f args.toArray w fun e w' => e = .returned v ∧ Chg NoB w w') : Quiet1 P u N (.call f args) v := h
theorem rd_of {α : Type} [GT α] {K : Nat} {x : α} {p : GT.Ptr α} (h : GT.rd K N u x p) {w : World} (hw : ∀ b, N b → b < w.heap.size ∧ w.heap[b]? = u.heap[b]?) : GT.rd K (Lt w.heap.size) w x p :=
  GT.rd_mono (GT.rd_agree h (fun b hb _ => (hw b hb).2)) (Nat.le_refl _) (fun b hb => (hw b hb).1)
end
end Go.Proofs.Ytgonaioedbphgaa
