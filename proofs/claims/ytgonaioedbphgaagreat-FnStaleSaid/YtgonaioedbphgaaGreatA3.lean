/- The drawn laws, in plain data. No program is named here. -/
import Derived.Test.YtgonaioedbphgaaGreatA2
import Derived.KernelRfl
import Derived.Test.YtgonaioedbphgaaGreatA1
import Derived.Test.YtgonaioedbphgaaGreatBits
import Derived.Test.YtgonaioedbphgaaGreatProg
namespace Go.Proofs.YtgonaioedbphgaaGreat
open Go
set_option linter.unusedVariables false
set_option maxRecDepth 100000
theorem upto16 {f : Int → Bool} (h : (List.range 16).all (fun n => f (n : Int)) = true) {a : Int} (h0 : 0 ≤ a ∧ a < 16) : f a = true := by
  have h1 := List.all_eq_true.1 h a.toNat (List.mem_range.2 (by omega))
  rwa [Int.toNat_of_nonneg h0.1] at h1
theorem el_pl {p : List Int} (hl : p.length = 12) (hb : ∀ x, x ∈ p → 0 ≤ x ∧ x ≤ 9999) (i : Nat) (hi : i < 12 := by decide) : (0 ≤ el p i ∧ el p i ≤ 9999) ∧ 0 ≤ Int.tmod (el p i) 16 ∧ Int.tmod (el p i) 16 < 16 := by
  have h := hb (el p i) (by rw [el_lt (by omega)]; exact List.getElem_mem _)
  refine ⟨h, ?_⟩
  rw [Int.tmod_eq_emod_of_nonneg h.1]
  omega
def l_taken (a : Int) : Bool :=
  let h0 := f_hostNew [[[⟨7, 0⟩]]]
  let h1 := (f_hostSet h0 0 0 (Int.tdiv a 4) ⟨3, 3⟩).1
  let h2 := (f_hostFlush h1 0 0 (Int.tdiv a 4)).1
  let d3 := f_hostDma h2 0 0 a 11
  let h4 := (f_hostSet d3.1 0 0 (Int.tdiv a 4) ⟨3, 1⟩).1
  let d5 := f_hostDma h4 0 0 a 22
  let h6 := (f_hostFlush d5.1 0 0 (Int.tdiv a 4)).1
  let d7 := f_hostDma h6 0 0 a 33
  let r := f_hostRead d7.1 0 0 a
  d3.2 && d5.2 && !d7.2 && r.2.1 == 22 && r.2.2
def l_many (n v : Nat) : Bool :=
  let h := f_hostNew (List.replicate n (List.replicate 3 [(⟨1, (v : Int)⟩ : TIns)]))
  decide (h.mons.length = min 3 n) && f_hostOk h && decide (h.buf.length = 0) && h.mons.all (fun m => decide (m.guests.length = 2) && decide (m.tables.length = 2))
structure THdr where
  l : Nat
  a : SP
instance : GT THdr where
  Ptr := Unit
  dflt := ⟨0, ⟨true, 0, 0, 0, none⟩⟩
  pdflt := ()
  width := 1
  agg := false
  cells x _ := [slv x.l x.a]
  rd _ _ _ _ _ := True
  own _ _ _ _ _ := True
  wpos := Nat.one_pos
  len _ _ := rfl
  one _ := rfl
  plain _ _ v h := by simp at h; subst h; rfl
  rd_mono h _ _ := h
  rd_agree h _ := h
  rd_lt h := h
  own_mono h _ _ := h
  own_agree h _ := h
  own_lt h := h
  own_rd h := h
  own_dflt _ _ _ := trivial
end Go.Proofs.YtgonaioedbphgaaGreat
namespace Go.Proofs.YtgonaioedbphgaaGreat
open Go
set_option linter.unusedVariables false
section
variable {P : Program} {n : Nat} {w0 : World} {M : Bl} {u : World} {N : Bl} {β : Nat → Nat} {a : Act} {w : World} {Q : Exit → Act → World → Prop}
theorem St.BF {ρ : Rs} (S : St P n w0 M u N β ρ.σ a w) {α : Type} [GT α] (xs : List α) (q0 : GT.Ptr α) {d : Tmp} (hfl : ∀ x, x ∈ xs → ∀ w', GT.own KK NoB w' x q0) (hl : xs.length ≤ KK)
    (K : ∀ a' w' N' r F, St P n w0 M w' N' β (ρ.put d (slv xs.length r.1)).σ a' w' → (∀ b, N b → N' b ∧ w'.heap[b]? = u.heap[b]?) → Ow w0 M w' N' F xs r → Disj N F → Gl P Q (ρ.put d (slv xs.length r.1)) a' w')
    (hop : bsAc P n ρ.cf.opsOf ρ.cf.idx ρ.σ = some (flatCells xs (fun _ => q0) xs.length, xs.length, d) := by kernel_rfl) (hB : ρ.cf.isOp = true := by kernel_rfl) : Gl P Q ρ a w := by
  refine ⟨lo (S.bs hop fun a' w' T S' up hrow hsz => ?_) hB⟩
  have hKm : xs.length ≤ 9223372036854775807 := Nat.le_trans hl (by unfold KK; decide)
  refine (K a' w' _ ((⟨false, w.heap.size, 0, xs.length, none⟩, fun _ => q0) : LP α) (Iv w.heap.size w'.heap.size) S' up ⟨?_, fun b h => .inr h, fun b h => .inl (Nat.le_trans S.chg.size h.1)⟩ (fun b h1 h2 => Disj.fresh S w' (fun _ h => h) b h1 h2)).ok
  refine (⟨hl, Nat.le_refl _, hKm, fun h => (by cases h), fun _ => ⟨⟨Nat.le_refl _, (by show w.heap.size < w'.heap.size; omega)⟩, _, T, hrow, by simp [flatCells_len]⟩, fun i hi => ?_, fun _ => NoB, fun i hi => ?_, fun i hi b hb => False.elim hb, fun i j hi hj hne b hb => False.elim hb⟩ : LOwn KK (Iv w.heap.size w'.heap.size) w' xs ((⟨false, w.heap.size, 0, xs.length, none⟩, fun _ => q0) : LP α))
  · intro j v hj
    have hjl : j < GT.width α := by
      have := (List.getElem?_eq_some_iff.1 hj).1
      rwa [GT.len] at this
    simp only [World.cell?, hrow, Option.isSome_none, Bool.false_eq_true, if_false, Nat.zero_add]
    rw [List.getElem?_toArray, flatCells_get xs (fun _ => q0) xs.length i j hi hjl]
    exact hj
  · exact hfl _ (by unfold el; rw [List.getD_eq_getElem?_getD, List.getElem?_eq_getElem hi]; exact List.getElem_mem hi) w'
end
structure TByte where
  v : Int
instance : GT TByte where
  Ptr := Unit
  dflt := ⟨0⟩
  pdflt := ()
  width := 1
  agg := false
  cells x _ := [.int .u8 x.v]
  rd _ _ _ x _ := 0 ≤ x.v ∧ x.v ≤ 255
  own _ _ _ x _ := 0 ≤ x.v ∧ x.v ≤ 255
  wpos := Nat.one_pos
  len _ _ := rfl
  one _ := rfl
  plain _ _ v h := by simp at h; subst h; rfl
  rd_mono h _ _ := h
  rd_agree h _ := h
  rd_lt h := h
  own_mono h _ _ := h
  own_agree h _ := h
  own_lt h := h
  own_rd h := h
  own_dflt _ _ _ := ⟨by decide, by decide⟩
theorem cutB {F : Bl} {w : World} {c : List TByte} {p : LP TByte} (h : GT.rd KR F w c p) (hl : c.length ≤ 1048576) : GT.rd KK F w c p :=
  (⟨Nat.le_trans hl (by unfold KK; decide), LRd.cap h, LRd.at_ h, LRd.cell h, fun i hi => LRd.el h i hi⟩ : LRd KK F w c p)
structure TCur where
  n : Nat
  p : SP
  i : Int
  h : Int
instance : GT TCur where
  Ptr := Unit
  dflt := ⟨0, ⟨true, 0, 0, 0, none⟩, 0, 0⟩
  pdflt := ()
  width := 3
  agg := true
  cells x _ := [slv x.n x.p, I x.i, I x.h]
  rd _ _ _ x _ := In64 x.i ∧ In64 x.h
  own _ _ _ x _ := In64 x.i ∧ In64 x.h
  wpos := by decide
  len _ _ := rfl
  one h := by cases h
  plain _ _ v h := by simp only [List.mem_cons, List.not_mem_nil, or_false] at h; rcases h with rfl | rfl | rfl <;> rfl
  rd_mono h _ _ := h
  rd_agree h _ := h
  rd_lt h := h
  own_mono h _ _ := h
  own_agree h _ := h
  own_lt h := h
  own_rd h := h
  own_dflt _ _ _ := ⟨⟨by decide, by decide⟩, by decide, by decide⟩
theorem opens_byte {P : Program} {t : TypeId} (ht : P.underlying t = some (.int .u8)) (hc : P.cellsOf t = 1) : Opens P t TByte := by
  refine ⟨hc, fun H enc w fuel cs x h => ?_⟩
  cases fuel with
  | zero => simp [DataW.trod] at h
  | succ n =>
    unfold DataW.trod at h
    rw [ht] at h
    split at h <;> simp_all
    rename_i k k' n' hk
    subst hk
    obtain ⟨⟨rfl, hw⟩, _⟩ := h
    exact ⟨⟨n'⟩, (), rfl, bounds_u8 hw⟩
theorem St.KE {P : Program} {n : Nat} {w0 : World} {M : Bl} {u : World} {N : Bl} {β : Nat → Nat} {a : Act} {w : World} {Q : Exit → Act → World → Prop} {ρ : Rs} {α : Type} [GT α] {φ : α → Prop} (S : St P n w0 M u N β ρ.σ a w) {f : FuncId} {vals : List Value} {d : Tmp} (hc : Calls P f vals.toArray w (fun e w' => ∃ r, φ r ∧ Ret1 NoB w r e w'))
    (K : ∀ a' w' N' r q F, φ r → St P n w0 M w' N' β (ρ.put d (GT.val r q)).σ a' w' → (∀ b, N b → N' b ∧ w'.heap[b]? = u.heap[b]?) → Ow w0 M w' N' F r q → Disj N F → Gl P Q (ρ.put d (GT.val r q)) a' w')
    (hcall : callAc P n ρ.cf.opsOf ρ.cf.idx ρ.σ = some (f, vals, d) := by kernel_rfl) (hd : Nat.blt d n = true := by kernel_rfl) (hB : ρ.cf.isOp = true := by kernel_rfl) : Gl P Q ρ a w :=
  ⟨lo (S.call hcall hc fun _ w' ⟨r, hr, q, he, hch, ho⟩ => ⟨_, he, (K _ w' _ r q _ hr (S.after hd hch) (S.up hch) ⟨ho, fun _ h => .inr h, fun _ h => .inl (Nat.le_trans S.chg.size h.1)⟩ (Disj.fresh S w' fun _ h => h)).ok⟩) hB⟩
end Go.Proofs.YtgonaioedbphgaaGreat
namespace Go.Proofs.YtgonaioedbphgaaGreat
open Go
set_option linter.unusedVariables false
set_option maxRecDepth 100000
def f_hostSteps (h : THost) (m : Int) (order : List Int) : THost × List Bool := order.foldl (fun s g => ((f_hostStep s.1 m g).1, s.2 ++ [(f_hostStep s.1 m g).2])) (h, [])
def f_seenOf (b : TBare) (g : Int) : List Int := (f_guestAt b g).1.seen
theorem el_pl8 {p : List Int} (hl : p.length = 12) (hb : ∀ x, x ∈ p → 0 ≤ x ∧ x ≤ 9999) (i : Nat) (hi : i < 12 := by decide) : 0 ≤ Int.tmod (el p i) 8 ∧ Int.tmod (el p i) 8 < 8 := by
  have h := hb (el p i) (by rw [el_lt (by omega)]; exact List.getElem_mem _)
  rw [Int.tmod_eq_emod_of_nonneg h.1]
  omega
def f_sameInts (a b : List Int) : Bool := decide (a = b)
def l_posting (a : Int) : Bool :=
  let h0 := f_hostNew [[[⟨1, 1⟩, ⟨7, 0⟩]]]
  let c1 := f_hostCtl h0 0 0 ⟨0, shl64 1 a, true⟩
  let p2 := f_hostPost c1.1 0 a
  let s3 := f_hostStep p2.1 0 0
  let p4 := f_hostPost p2.1 0 (Int.tmod (a + 1) 8)
  let k5 := f_hostAck p4.1 0
  c1.2 && p2.2 && p4.2 && k5.2.2 && k5.2.1 == Int.tmod (a + 1) 8 && f_seenOf (f_seenAs s3.1 0) 0 == [100 + a]
theorem steps_next {h : THost} {m : Int} {order : List Int} {k : Nat} {Y : THost} {acc : List Bool} (hk : k < order.length) (h1 : (Y, acc) = f_hostSteps h m (order.take k)) : ((f_hostStep Y m (el order k)).1, acc ++ [(f_hostStep Y m (el order k)).2]) = f_hostSteps h m (order.take (k + 1)) := by
  unfold f_hostSteps at h1 ⊢
  rw [take_el hk, List.foldl_append, ← h1]
  rfl
theorem steps_end {h : THost} {m : Int} {order : List Int} {k : Nat} {Y : THost} {acc : List Bool} (hk : order.length ≤ k) (h1 : (Y, acc) = f_hostSteps h m (order.take k)) : f_hostSteps h m order = (Y, acc) := by
  rw [take_all hk] at h1; exact h1.symm
def l_stale (a : Int) : Bool :=
  let h0 := f_hostNew [[[⟨1, 7⟩, ⟨4, a⟩, ⟨4, a⟩, ⟨7, 0⟩]]]
  let h1 := (f_hostSet h0 0 0 (Int.tdiv a 4) ⟨2, 3⟩).1
  let h2 := (f_hostFlush h1 0 0 (Int.tdiv a 4)).1
  let h3 := (f_hostSteps h2 0 [0, 0]).1
  let h4 := (f_hostPoke h3 0 2 (Int.tmod a 4) 50).1
  let h5 := (f_hostSet h4 0 0 (Int.tdiv a 4) ⟨5, 3⟩).1
  let h6 := (f_hostFlush h5 0 0 (Int.tdiv a 4)).1
  let r := f_hostSteps h6 0 [0]
  decide (r.2 = [true]) && f_cellAt [f_pageOf r.1 0 2] 0 (Int.tmod a 4) == 50 && f_cellAt [f_pageOf r.1 0 5] 0 (Int.tmod a 4) == 7
theorem stale_ok {a : Int} (h0 : 0 ≤ a ∧ a < 16) {Y1 : THost} {Y2 Y3 Y5 Y6 Y7 : THost × Bool} {Y4 Y8 : THost × List Bool} (h1 : Y1 = f_hostNew [[[⟨1, 7⟩, ⟨4, a⟩, ⟨4, a⟩, ⟨7, 0⟩]]]) (h2 : Y2 = f_hostSet Y1 0 0 (Int.tdiv a 4) ⟨2, 3⟩) (h3 : Y3 = f_hostFlush Y2.1 0 0 (Int.tdiv a 4)) (h4 : Y4 = f_hostSteps Y3.1 0 [0, 0]) (h5 : Y5 = f_hostPoke Y4.1 0 2 (Int.tmod a 4) 50) (h6 : Y6 = f_hostSet Y5.1 0 0 (Int.tdiv a 4) ⟨5, 3⟩) (h7 : Y7 = f_hostFlush Y6.1 0 0 (Int.tdiv a 4)) (h8 : Y8 = f_hostSteps Y7.1 0 [0]) :
    (Y8.2 = [true] ∧ f_cellAt [f_pageOf Y8.1 0 2] 0 (Int.tmod a 4) = 50) ∧ f_cellAt [f_pageOf Y8.1 0 5] 0 (Int.tmod a 4) = 7 := by
  have h : l_stale a = true := upto16 (f := l_stale) (by kernel_rfl) h0
  unfold l_stale at h
  simp only [← h1] at h
  simp only [← h2] at h
  simp only [← h3] at h
  simp only [← h4] at h
  simp only [← h5] at h
  simp only [← h6] at h
  simp only [← h7] at h
  simp only [← h8] at h
  simpa using h
end Go.Proofs.YtgonaioedbphgaaGreat
namespace Go.Proofs.YtgonaioedbphgaaGreat
open Go
theorem c_math_bits_Len (w0 : World) (x : Int) (pre0 : 0 ≤ x) (pre1 : x ≤ 9223372036854775807) : Calls Tryz.prog 210 [.int .u64 x].toArray w0 (fun e w' => e = .returned (I (f_bitLen x)) ∧ Chg NoB w0 w') :=
  (Go.Proofs.YtgonaioedbphgaaGreatBits.bits_Len x w0 pre0 (by omega)).mono fun e w' ⟨h1, h2⟩ => ⟨h1, h2 ▸ Chg.refl _ _⟩
end Go.Proofs.YtgonaioedbphgaaGreat
namespace Go.Proofs.YtgonaioedbphgaaGreat
open Go
set_option linter.unusedVariables false
set_option maxRecDepth 100000

section
variable {P : Program} {n : Nat} {w0 : World} {M : Bl} {u : World} {N : Bl} {β : Nat → Nat} {σ : Sy} {a : Act} {w : World} {Q : Exit → Act → World → Prop}
theorem Q_mulw {x y : Int} : Quiet1 P u N (.int .mul .i64 x y) (I (IntKind.i64.wrap (x * y))) := fun _ _ => rfl
theorem Q_convb {s d : TypeId} {x : Int} {ts : TypeDesc} (hs : P.underlying s = some ts) (hd : P.underlying d = some (.int .i64)) (h0 : 0 ≤ x) (h1 : x ≤ 255) : Quiet1 P u N (.sem (Go.convert s d (.int .u8 x))) (I x) := fun w _ => by
  show (Go.convert s d (.int .u8 x)).run P w = _
  unfold Go.convert
  simp only [Sem.run_bind, run_underlying hs, run_underlying hd, Result.andThen_ok]
  have e : IntKind.i64.wrap x = x := wrap_in ⟨by omega, by omega⟩
  cases ts <;> first | (simp [e]; done) | rfl | (show Result.ok (Value.int .i64 (IntKind.i64.wrap x)) w = _; rw [e])
theorem land_bd {m : Nat} (hm : m ≤ 1073741823) (x : Int) : 0 ≤ land64 x (m : Int) ∧ land64 x (m : Int) ≤ m := by
  unfold land64
  have h1 : (BitVec.ofInt 64 (m : Int)).toNat = m := by
    rw [BitVec.toNat_ofInt]
    have : ((m : Int) % ((2 ^ 64 : Nat) : Int)).toNat = m := by
      rw [Int.emod_eq_of_lt (by omega) (by omega)]; rfl
    exact this
  have h2 : (BitVec.ofInt 64 x &&& BitVec.ofInt 64 (m : Int)).toNat ≤ m := by
    rw [BitVec.toNat_and, h1]; exact Nat.and_le_right
  rw [wrap_in (⟨by omega, by omega⟩ : In64 _)]
  exact ⟨by omega, by omega⟩
/-- A draw: the cursor moves on. -/
def RetK (c : List TByte) (pc : LP TByte) (F : Bl) (q : LP TCur) (w : World) (φ : Int → Prop) (e : Ending) (w' : World) : Prop :=
  ∃ (x i h : Int) (p2 : Nat → GT.Ptr TCur) (F' : Bl), e = .returned (I x) ∧ φ x ∧ (0 ≤ i ∧ i ≤ c.length) ∧ In64 h ∧ Chg F w w' ∧ GT.own KK F' w' [(⟨c.length, pc.1, i, h⟩ : TCur)] ((q.1, p2) : LP TCur) ∧ ∀ b, F' b → F b ∨ (w.heap.size ≤ b ∧ b < w'.heap.size)
theorem St.kD {ρ : Rs} {c : List TByte} {pc : LP TByte} {F : Bl} {q : LP TCur} {x0 : List TCur} (S : St P n w0 M u N β ρ.σ a w) (o : Ow w0 M u N F x0 q) {f : FuncId} {vals : List Value} {d : Tmp} {φ : Int → Prop} (hc : Calls P f vals.toArray w (RetK c pc F q w φ))
    (K : ∀ (a2 : Act) (w' : World) (N' : Bl) (x i h : Int) (p2 : Nat → GT.Ptr TCur) (F' : Bl), φ x → (0 ≤ i ∧ i ≤ c.length) → In64 h → St P n w0 M w' N' β (ρ.put d (I x)).σ a2 w' → (∀ b, N b → ¬ F b → N' b ∧ w'.heap[b]? = u.heap[b]?) → Ow w0 M w' N' F' [(⟨c.length, pc.1, i, h⟩ : TCur)] ((q.1, p2) : LP TCur) → (∀ G : Bl, Disj G F → (∀ b, G b → N b) → Disj G F') → Gl P Q (ρ.put d (I x)) a2 w')
    (hcall : callAc P n ρ.cf.opsOf ρ.cf.idx ρ.σ = some (f, vals, d) := by kernel_rfl) (hd : Nat.blt d n = true := by kernel_rfl) (hB : ρ.cf.isOp = true := by kernel_rfl) : Gl P Q ρ a w :=
  ⟨lo (S.call hcall hc fun _ w' ⟨x, i, h, p2, F', he, h1, h2, h3, hch, ho, hf⟩ => ⟨_, he, (K _ w' _ x i h p2 F' h1 h2 h3 ((S.afterF hch o.sub o.young).put (look_put hd) (fun _ _ e => by cases e)) (S.upF hch)
    ⟨ho, fun b h => (hf b h).elim (fun h => .inl (o.sub b h)) .inr, fun b h => (hf b h).elim (o.young b) (fun h => .inl (Nat.le_trans S.chg.size h.1))⟩
    (fun G g1 g2 b h1 h2 => (hf b h2).elim (g1 b h1) (fun h => by have := (S.sep b (g2 b h1)).1; omega))).ok⟩) hB⟩
theorem retK_of {c : List TByte} {pc : LP TByte} {F F' : Bl} {q : LP TCur} {φ : Int → Prop} {x i h : Int} {p2 : Nat → GT.Ptr TCur} (S : St P n w0 F u N β σ a w) (h1 : φ x) (h2 : 0 ≤ i ∧ i ≤ c.length) (h3 : In64 h) (o : Ow w0 F u N F' [(⟨c.length, pc.1, i, h⟩ : TCur)] ((q.1, p2) : LP TCur)) : RetK c pc F q w0 φ (.returned (packed [I x])) w :=
  ⟨x, i, h, p2, F', rfl, h1, h2, h3, S.chg, GT.own_agree o.own (fun b hb _ => (S.sep b (o.sub b hb)).2.1), fun b hb => (o.young b hb).elim (fun h => .inr ⟨h, (S.sep b (o.sub b hb)).1⟩) .inl⟩
theorem St.cod {c : List TByte} {pc : LP TByte} {G F F1 : Bl} {x0 : List TCur} {q : LP TCur} (S : St P n w0 F u N β σ a w) (hc : GT.rd KK G w0 c pc) (gc : ∀ b, G b → b < w0.heap.size ∧ ¬ F b) (o : Ow w0 F u N F1 x0 q) : GT.rd KK G w c pc ∧ ∀ b, G b → b < w.heap.size ∧ ¬ F1 b :=
  ⟨GT.rd_agree hc fun b hb _ => S.chg.block b (gc b hb).1 (gc b hb).2, fun b hb => ⟨Nat.lt_of_lt_of_le (gc b hb).1 S.chg.size, fun h => (o.young b h).elim (fun h1 => Nat.not_lt_of_le h1 (gc b hb).1) (gc b hb).2⟩⟩
/-- A new cursor. -/
def RetN (c : List TByte) (pc : LP TByte) (w : World) (e : Ending) (w' : World) : Prop :=
  ∃ (i h : Int) (b : Nat) (F : Bl), e = .returned (pt b 0) ∧ (0 ≤ i ∧ i ≤ c.length) ∧ In64 h ∧ Chg NoB w w' ∧ GT.own KK F w' [(⟨c.length, pc.1, i, h⟩ : TCur)] (cap1 b () : LP TCur) ∧ ∀ b, F b → w.heap.size ≤ b ∧ b < w'.heap.size
theorem St.kN {ρ : Rs} {c : List TByte} {pc : LP TByte} (S : St P n w0 M u N β ρ.σ a w) {f : FuncId} {vals : List Value} {d : Tmp} (hc : Calls P f vals.toArray w (RetN c pc w))
    (K : ∀ (a2 : Act) (w' : World) (N' : Bl) (i h : Int) (b : Nat) (F : Bl), (0 ≤ i ∧ i ≤ c.length) → In64 h → St P n w0 M w' N' β (ρ.put d (pt b 0)).σ a2 w' → (∀ b, N b → N' b ∧ w'.heap[b]? = u.heap[b]?) → Ow w0 M w' N' F [(⟨c.length, pc.1, i, h⟩ : TCur)] (cap1 b () : LP TCur) → Disj N F → Gl P Q (ρ.put d (pt b 0)) a2 w')
    (hcall : callAc P n ρ.cf.opsOf ρ.cf.idx ρ.σ = some (f, vals, d) := by kernel_rfl) (hd : Nat.blt d n = true := by kernel_rfl) (hB : ρ.cf.isOp = true := by kernel_rfl) : Gl P Q ρ a w :=
  ⟨lo (S.call hcall hc fun _ w' ⟨i, h, b, F, he, h2, h3, hch, ho, hf⟩ => ⟨_, he, (K _ w' _ i h b F h2 h3 (S.after hd hch) (S.up hch) ⟨ho, fun b h => .inr (hf b h), fun b h => .inl (Nat.le_trans S.chg.size (hf b h).1)⟩ (Disj.fresh S w' fun b h => hf b h)).ok⟩) hB⟩
end
abbrev Hm (h : Int) : Int := IntKind.i64.wrap (IntKind.i64.wrap (h * 6364136223846793005) + 1442695040888963407)
abbrev Xm (H : Int) : Int := land64 (lxor64 (shr64 H 33) (shr64 H 45)) 255

theorem c_spec_l01Byte (w0 : World) (c : List TByte) (pc : LP TByte) (G F : Bl) (hc : GT.rd KK G w0 c pc) (gc : ∀ b, G b → b < w0.heap.size ∧ ¬ F b) (i h : Int) (hi : 0 ≤ i ∧ i ≤ c.length) (hh : In64 h) (q : LP TCur) (hx : GT.own KK F w0 [(⟨c.length, pc.1, i, h⟩ : TCur)] q) (hF : ∀ b, F b → b < w0.heap.size) :
    Calls Tryz.prog 115 [pt q.1.b (q.1.off + 0 * 3)].toArray w0 (RetK c pc F q w0 fun x => 0 ≤ x ∧ x ≤ 255) := by
  refine Calls.run F Tryz.func115 ?_
  intro ac β S
  have hle : c.length ≤ 4194304 := LRd.le hc
  have o : Ow w0 F w0 (Lt w0.heap.size) F [(⟨c.length, pc.1, i, h⟩ : TCur)] q := ⟨hx, hF, fun b hb => .inr hb⟩
  have h1 : (1 : Nat) = [(⟨c.length, pc.1, i, h⟩ : TCur)].length := rfl
  refine S.go 16 (.cons (qc o.rn 3 0 2 (I h) (Nat.succ_pos 0)) (.cons (Q_mulw (x := h) (y := 6364136223846793005)) (.cons (Q_addw (x := IntKind.i64.wrap (h * 6364136223846793005)) (y := 1442695040888963407)) .nil))) fun ac w β S => S.SF (α := TCur) o (t := 3) (k := 0) (j := 2) (off := q.1.off + 0 * 3 + 2) (v := I (Hm h)) (y := (⟨c.length, pc.1, i, Hm h⟩ : TCur)) (q := ()) (fun _ _ _ => ⟨NoB, ⟨(show In64 i from ⟨by omega, by omega⟩), wrap_in64 _⟩, fun _ h => False.elim h⟩) (hk := Nat.succ_pos 0) fun w N F2 q2 S up o2 dd fs nn => ?_
  have o2 : Ow w0 F w N F2 [(⟨c.length, pc.1, i, Hm h⟩ : TCur)] ((q.1, q2) : LP TCur) := o2
  have hcn := S.argG hc gc
  refine S.gd 9 (.cons (qc o2.rn 3 0 2 (I (Hm h)) (Nat.succ_pos 0)) (.cons (Q_shr (yk := .u64) (x := Hm h) (y := 33) (by decide)) (.cons (qc o2.rn 3 0 2 (I (Hm h)) (Nat.succ_pos 0)) (.cons (Q_shr (yk := .u64) (x := Hm h) (y := 45) (by decide)) (.cons (Q_lxor64 (x := shr64 (Hm h) 33) (y := shr64 (Hm h) 45)) (.cons (Q_land64 (x := lxor64 (shr64 (Hm h) 33) (shr64 (Hm h) 45)) (y := 255))
    (.cons (qc o2.rn 3 0 1 (I i) (Nat.succ_pos 0)) (.cons (qc o2.rn 22 0 0 (slv c.length pc.1) (Nat.succ_pos 0)) .nil)))))))) (decide (i < (c.length : Int))) (fun ac w β h1 g1 S => ?_) (fun ac w β h1 g1 S => ?_)
  · have hb : 0 ≤ (el c i.toNat).v ∧ (el c i.toNat).v ≤ 255 := LRd.el hcn i.toNat (by omega)
    have hX : 0 ≤ Xm (Hm h) ∧ Xm (Hm h) ≤ 255 := land_bd (m := 255) (by decide) _
    refine S.go 13 (.cons (qc o2.rn 22 0 0 (slv c.length pc.1) (Nat.succ_pos 0)) (.cons (qc o2.rn 3 0 1 (I i) (Nat.succ_pos 0)) (.cons (qt hcn i Tryz.underlying22) (.cons (qx hcn 5 i.toNat) (.cons (Q_convb (s := 5) (d := 3) (x := (el c i.toNat).v) Tryz.underlying5 Tryz.underlying3 hb.1 hb.2) (.cons (Q_add (x := Xm (Hm h)) (y := (el c i.toNat).v) ⟨by omega, by omega⟩) (.cons (Q_land64 (x := Xm (Hm h) + (el c i.toNat).v) (y := 255))
      (.cons (qc o2.rn 3 0 1 (I i) (Nat.succ_pos 0)) (.cons (qp i 1) .nil))))))))) fun ac w β S => S.SF (α := TCur) o2 (t := 3) (k := 0) (j := 1) (off := q.1.off + 0 * 3 + 1) (v := I (i + 1)) (y := (⟨c.length, pc.1, i + 1, Hm h⟩ : TCur)) (q := ()) (fun _ _ _ => ⟨NoB, ⟨(show In64 (i + 1) from ⟨by omega, by omega⟩), wrap_in64 _⟩, fun _ h => False.elim h⟩) (hk := Nat.succ_pos 0) fun w N F3 q3 S up o3 dd fs nn => ?_
    have o3 : Ow w0 F w N F3 [(⟨c.length, pc.1, i + 1, Hm h⟩ : TCur)] ((q.1, q3) : LP TCur) := o3
    refine S.gr 9 .nil [I (land64 (Xm (Hm h) + (el c i.toNat).v) 255)] fun ac w β S => ?_
    exact retK_of S (land_bd (m := 255) (by decide) _) ⟨by omega, by omega⟩ (wrap_in64 _) o3
  · refine S.gr 10 .nil [I (Xm (Hm h))] fun ac w β S => ?_
    exact retK_of S (land_bd (m := 255) (by decide) _) hi (wrap_in64 _) o2

theorem c_spec_l01Below (w0 : World) (c : List TByte) (pc : LP TByte) (G F : Bl) (hc : GT.rd KK G w0 c pc) (gc : ∀ b, G b → b < w0.heap.size ∧ ¬ F b) (i h : Int) (hi : 0 ≤ i ∧ i ≤ c.length) (hh : In64 h) (q : LP TCur) (hx : GT.own KK F w0 [(⟨c.length, pc.1, i, h⟩ : TCur)] q) (hF : ∀ b, F b → b < w0.heap.size) (n : Int) :
    Calls Tryz.prog 55 [pt q.1.b (q.1.off + 0 * 3), I n].toArray w0 (RetK c pc F q w0 fun x => (n ≤ 0 → x = 0) ∧ (0 < n → 0 ≤ x ∧ x < n)) := by
  refine Calls.run F Tryz.func55 ?_
  intro ac β S
  have o : Ow w0 F w0 (Lt w0.heap.size) F [(⟨c.length, pc.1, i, h⟩ : TCur)] q := ⟨hx, hF, fun b hb => .inr hb⟩
  have hmod : ∀ x : Int, 0 ≤ x → 0 < n → 0 ≤ x.tmod n ∧ x.tmod n < n := fun x h1 h2 => by
    rw [Int.tmod_eq_emod_of_nonneg h1]
    exact ⟨Int.emod_nonneg _ (by omega), Int.emod_lt_of_pos _ h2⟩
  refine S.gd 12 .nil (decide (n ≤ 0)) (fun ac w β h1 g1 S => ?_) (fun ac w β h1 g1 S => ?_)
  · refine S.gr 7 .nil [I 0] fun ac w β S => ?_
    exact retK_of S ⟨fun _ => rfl, fun h => absurd h (by omega)⟩ hi hh o
  refine S.gd 10 .nil (decide (n ≤ 256)) (fun ac w β h2 g2 S => ?_) (fun ac w β h2 g2 S => ?_)
  · refine S.go 4 .nil fun ac w β S => S.kD (d := 14) o (c_spec_l01Byte w c pc G F (S.cod hc gc o).1 (S.cod hc gc o).2 i h hi hh q (S.ownw o) (fun b hb => (S.sep b (o.sub b hb)).1)) fun ac w N x i h p2 F2 hx hi hh S up o dd => ?_
    refine S.gr 6 (.cons (Q_rem (x := x) (y := n) (by omega)) .nil) [I (x.tmod n)] fun ac w β S => ?_
    exact retK_of S ⟨fun h => absurd h g1, fun h => hmod x hx.1 h⟩ hi hh o
  refine S.go 6 .nil fun ac w β S => S.kD (d := 18) o (c_spec_l01Byte w c pc G F (S.cod hc gc o).1 (S.cod hc gc o).2 i h hi hh q (S.ownw o) (fun b hb => (S.sep b (o.sub b hb)).1)) fun ac w N x i h p2 F2 hx hi hh S up o dd => ?_
  refine S.go 6 .nil fun ac w β S => S.kD (d := 20) o (c_spec_l01Byte w c pc G F2 (S.cod hc gc o).1 (S.cod hc gc o).2 i h hi hh (q.1, p2) (S.ownw o) (fun b hb => (S.sep b (o.sub b hb)).1)) fun ac w N y i h p3 F3 hy hi hh S up o dd => ?_
  refine S.go 6 .nil fun ac w β S => S.kD (d := 22) o (c_spec_l01Byte w c pc G F3 (S.cod hc gc o).1 (S.cod hc gc o).2 i h hi hh (q.1, p3) (S.ownw o) (fun b hb => (S.sep b (o.sub b hb)).1)) fun ac w N z i h p4 F4 hz hi hh S up o dd => ?_
  refine S.go 6 .nil fun ac w β S => S.kD (d := 24) o (c_spec_l01Byte w c pc G F4 (S.cod hc gc o).1 (S.cod hc gc o).2 i h hi hh (q.1, p4) (S.ownw o) (fun b hb => (S.sep b (o.sub b hb)).1)) fun ac w N v i h p5 F5 hv hi hh S up o dd => ?_
  refine S.gr 21 (.cons (Q_mul (x := x) (y := 16777216) ⟨by omega, by omega⟩) (.cons (Q_mul (x := y) (y := 65536) ⟨by omega, by omega⟩) (.cons (qp (x * 16777216) (y * 65536)) (.cons (Q_mul (x := z) (y := 256) ⟨by omega, by omega⟩) (.cons (qp (x * 16777216 + y * 65536) (z * 256)) (.cons (qp (x * 16777216 + y * 65536 + z * 256) v) (.cons (Q_rem (x := x * 16777216 + y * 65536 + z * 256 + v) (y := n) (by omega)) .nil))))))) [I ((x * 16777216 + y * 65536 + z * 256 + v).tmod n)] fun ac w β S => ?_
  exact retK_of S ⟨fun h => absurd h g1, fun h => hmod _ (by omega) h⟩ hi hh o

theorem c_spec_l01New (w0 : World) (c : List TByte) (pc : LP TByte) (hc : RD w0 c pc) (hl : c.length ≤ 1048576) :
    Calls Tryz.prog 33 [slv c.length pc.1].toArray w0 (RetN c pc w0) := by
  refine Calls.run NoB Tryz.func33 ?_
  intro ac β S
  refine S.go 20 (.cons (qp 94701 (c.length : Int)) .nil) fun ac w β S => ?_
  refine lp (fun mm ac w => ∃ (j : Nat) (hh : Int) (u : _) (N : _) (β : _), mm = c.length - j ∧ j ≤ c.length ∧ (0 ≤ hh ∧ hh ≤ 1073741823) ∧ St Tryz.prog Tryz.f33.ntmps w0 NoB u N β ⟨[(0, .v (slv c.length pc.1)), (3, .v (I hh)), (4, .v (I (j : Int)))], []⟩ ac w) _ ⟨0, 94701 + (c.length : Int), _, _, _, rfl, Nat.zero_le _, ⟨by omega, by omega⟩, S.z⟩ ?_
  clear S
  rintro f mm hf ac w ⟨j, hh, u, N, β, rfl, hj, hb, S⟩
  refine S.rs fun S => ?_
  have hq : ∀ (u : World) (N : Bl), Quiet1 Tryz.prog u N (.sem (Instr.build 133 [(0, slv c.length pc.1), (2, I hh)].toArray)) (.agg [slv c.length pc.1, I 0, I hh].toArray) := fun u N => Q_sem (fun w => by kernel_rfl)
  have hr : In64 (0 : Int) ∧ In64 hh := ⟨⟨by decide, by decide⟩, by omega, by omega⟩
  refine S.gd 8 .nil (decide ((j : Int) < (c.length : Int))) (fun ac w β h1 g1 S => ?_) (fun ac w β h1 g1 S => ?_)
  · refine S.gd 5 .nil (decide ((j : Int) < 4000)) (fun ac w β h2 g2 S => ?_) (fun ac w β h2 g2 S => ?_)
    · have hv : 0 ≤ (el c j).v ∧ (el c j).v ≤ 255 := LRd.el (S.arg hc) j (by omega)
      refine S.ge 25 (.cons (Q_mul (x := hh) (y := 131) ⟨by omega, by omega⟩) (.cons (qn (S.arg hc) j Tryz.underlying22) (.cons (qx (S.arg hc) 5 j) (.cons (Q_convb (s := 5) (d := 3) (x := (el c j).v) Tryz.underlying5 Tryz.underlying3 hv.1 hv.2) (.cons (qp (hh * 131) (el c j).v) (.cons (qp (hh * 131 + (el c j).v) 7) (.cons (Q_land64 (x := hh * 131 + (el c j).v + 7) (y := 1073741823)) (.cons (qp (j : Int) 1) .nil)))))))) f fun ac w β S => hf.of (c.length - (j + 1)) _ _ (by omega) ⟨j + 1, land64 (hh * 131 + (el c j).v + 7) 1073741823, _, _, _, rfl, by omega, land_bd (m := 1073741823) (by decide) _, S.z⟩
    · refine S.go 14 (.cons (hq u N) .nil) fun ac w β S => S.Frz 0 (⟨c.length, pc.1, 0, hh⟩ : TCur) () hr fun β N b F S up o dd => ?_
      refine S.gr 2 .nil [pt b 0] fun ac w β S => ?_
      exact ⟨0, hh, b, F, rfl, ⟨by omega, by omega⟩, hr.2, S.chg, (S.own' o).1, (S.own' o).2⟩
  · refine S.go 19 (.cons (hq u N) .nil) fun ac w β S => S.Frz 0 (⟨c.length, pc.1, 0, hh⟩ : TCur) () hr fun β N b F S up o dd => ?_
    refine S.gr 2 .nil [pt b 0] fun ac w β S => ?_
    exact ⟨0, hh, b, F, rfl, ⟨by omega, by omega⟩, hr.2, S.chg, (S.own' o).1, (S.own' o).2⟩

theorem c_spec_DrawPlaces (w0 : World) (c : List TByte) (pc : LP TByte) (hc : RD w0 c pc) (hl : c.length ≤ 1048576) :
    Calls Tryz.prog 19 [slv c.length pc.1].toArray w0 (fun e w' => ∃ p : List Int, (p.length = 12 ∧ ∀ x ∈ p, 0 ≤ x ∧ x ≤ 9999) ∧ Ret1 NoB w0 p e w') := by
  refine Calls.run NoB Tryz.func19 ?_
  intro ac β S
  refine S.go 8 .nil fun ac w β S => S.kN (d := 7) (c_spec_l01New w c pc (S.rd (S.arg hc)) hl) fun ac w N i h b F hi hh S up oc dc => ?_
  refine S.go 5 .nil fun ac w β S => S.B0 (α := Int) (d := 8) fun ac w N q Fa S up oa da => ?_
  have dac : Disj Fa F := (Disj.w da oc.sub).symm
  replace oc := oc.up up
  refine S.go 10 .nil fun ac w β S => ?_
  refine lp (fun mm ac w => ∃ (k : Nat) (acc : List Int) (qa : LP Int) (Fa : Bl) (i h : Int) (p2 : Nat → GT.Ptr TCur) (Fc : Bl) (u : _) (N : _) (β : _), mm = 12 - k ∧ k ≤ 12 ∧ acc.length = k ∧ (∀ x ∈ acc, 0 ≤ x ∧ x ≤ 9999) ∧ (0 ≤ i ∧ i ≤ c.length) ∧ In64 h ∧ St Tryz.prog Tryz.f19.ntmps w0 NoB u N β ⟨[(3, .v (pt b 0)), (4, .v (slv acc.length qa.1)), (5, .v (I (k : Int)))], []⟩ ac w ∧ Ow w0 NoB u N Fa acc qa ∧ Ow w0 NoB u N Fc [(⟨c.length, pc.1, i, h⟩ : TCur)] (((cap1 b () : LP TCur).1, p2) : LP TCur) ∧ Disj Fa Fc) _
    ⟨0, [], q, Fa, i, h, _, F, _, _, _, rfl, Nat.zero_le _, rfl, List.forall_mem_nil _, hi, hh, S.z, oa, oc, dac⟩ ?_
  clear S oa oc dac
  rintro f mm hf ac w ⟨k, acc, qa, Fa, i, h, p2, Fc, u, N, β, rfl, hk, hla, hacc, hi, hh, S, oa, oc, dac⟩
  refine S.rs fun S => ?_
  refine S.gd 7 .nil (decide ((k : Int) < 12)) (fun ac w β h1 g1 S => ?_) (fun ac w β h1 g1 S => ?_)
  · refine S.go 8 .nil fun ac w β S => S.kD (d := 15) oc (c_spec_l01Below w c pc (Lt w0.heap.size) Fc (S.cod hc (fun b hb => ⟨hb, id⟩) oc).1 (S.cod hc (fun b hb => ⟨hb, id⟩) oc).2 i h hi hh _ (S.ownw oc) (fun b hb => (S.sep b (oc.sub b hb)).1) 10000) fun ac w N x i h p3 Fd hx hi hh S up od dd => ?_
    have hx := hx.2 (by decide)
    have dad := dd _ dac oa.sub
    replace oa := oa.upF dac up
    refine S.B1 (α := Int) (x := x) (p := ()) (F := NoB) (show In64 x from ⟨by omega, by omega⟩) (fun b h => False.elim h) (fun b h => False.elim h) (d := 16) fun ac w N r Fe S up oe de => ?_
    have dae := de Fa (fun b _ h => False.elim h) oa.sub
    have dde := de Fd (fun b _ h => False.elim h) od.sub
    replace oa := oa.up up
    replace od := od.up up
    refine S.AF (α := Int) oa oe.rn (fun _ _ h => h) (by' := 8) (d := 17) (lx := acc.length) (ly := 1) rfl rfl (show acc.length + [x].length ≤ 4194304 by simp only [List.length_cons, List.length_nil]; omega) fun ac w N s Fg S up og dg => ?_
    have ddg := dg Fd dad.symm od.sub
    replace od := od.upF dad.symm up
    refine S.ge 9 (.cons (qp (k : Int) 1) .nil) f fun ac w β S => hf.of (12 - (k + 1)) _ _ (by omega) ⟨k + 1, acc ++ [x], s, Fg, i, h, p3, Fd, _, _, _, rfl, by omega, by rw [List.length_append]; simp; omega, ?_, hi, hh, S.z, og, od, ddg.symm⟩
    intro y hy
    rcases List.mem_append.1 hy with h | h
    · exact hacc y h
    · rw [List.mem_singleton.1 h]; omega
  · refine S.gr 13 .nil [slv acc.length qa.1] fun ac w β S => ?_
    exact ⟨acc, ⟨by omega, hacc⟩, qa, rfl, S.chg, S.own oa⟩
end Go.Proofs.YtgonaioedbphgaaGreat
