/- Worlds that agree on some blocks; typed data read off memory: a class of types whose values are cells given by data and pointers. No program is named here. -/
import Derived.Below
import Derived.Deep.MidRow
import Derived.Laws.CopyRow
namespace Go.Proofs.Ytgonaioedbphgaa
open Go
abbrev Bl := Nat → Prop
def Disj (A B : Bl) : Prop := ∀ b, A b → B b → False
theorem Disj.w {A B C : Bl} (d : ∀ b, B b → C b → False) (h : ∀ b, A b → B b) : Disj A C := fun b x y => d b (h b x) y
def Lt (n : Nat) : Bl := fun b => b < n
def Iv (lo hi : Nat) : Bl := fun b => lo ≤ b ∧ b < hi
def NoB : Bl := fun _ => False
theorem Disj.symm {A B : Bl} (h : Disj A B) : Disj B A := fun b x y => h b y x
structure Chg (M : Bl) (w w' : World) : Prop where
  os : w'.os = w.os
  tape : w'.tape = w.tape
  output : w'.output = w.output
  size : w.heap.size ≤ w'.heap.size
  block : ∀ k, k < w.heap.size → ¬ M k → w'.heap[k]? = w.heap[k]?
theorem Chg.refl (M : Bl) (w : World) : Chg M w w := ⟨rfl, rfl, rfl, Nat.le_refl _, fun _ _ _ => rfl⟩
theorem Chg.step {M M' : Bl} {a b c : World} (h : Chg M a b) (k : Chg M' b c) (hm : ∀ x, x < a.heap.size → M' x → M x) : Chg M a c :=
  ⟨k.os.trans h.os, k.tape.trans h.tape, k.output.trans h.output, Nat.le_trans h.size k.size, fun x hx hn =>
    (k.block x (Nat.lt_of_lt_of_le hx h.size) (fun hq => hn (hm x hx hq))).trans (h.block x hx hn)⟩
theorem Chg.mono {M M' : Bl} {a b : World} (h : Chg M a b) (hm : ∀ x, M x → M' x) : Chg M' a b :=
  ⟨h.os, h.tape, h.output, h.size, fun x hx hn => h.block x hx (fun q => hn (hm x q))⟩
theorem Chg.trans {M : Bl} {a b c : World} (h : Chg M a b) (k : Chg M b c) : Chg M a c := h.step k fun _ _ x => x
theorem Chg.below {w w' : World} (h : Chg NoB w w') : RowKit.Below w.heap.size w w' :=
  ⟨h.os, h.tape, h.output, h.size, fun k hk => h.block k hk (fun x => x)⟩
theorem Chg.draw (M : Bl) (w : World) (n : Nat) : Chg M w { w with drawn := n } := ⟨rfl, rfl, rfl, Nat.le_refl _, fun _ _ _ => rfl⟩
theorem Chg.push (M : Bl) (w : World) (o : Obj) : Chg M w { w with heap := w.heap.push o } :=
  ⟨rfl, rfl, rfl, by simp, fun k hk _ => by simp [Array.getElem?_push, Nat.ne_of_lt hk]⟩
theorem heap_setCell (w : World) (a : Addr) (v : Value) (k : Nat) (h : k ≠ a.block) : (w.setCell a v).heap[k]? = w.heap[k]? := by
  simp only [World.setCell, Array.getElem?_modify]
  rw [if_neg (fun e => h e.symm)]
theorem size_setCell (w : World) (a : Addr) (v : Value) : (w.setCell a v).heap.size = w.heap.size := by simp [World.setCell]
theorem Chg.setCell {M : Bl} (w : World) (a : Addr) (v : Value) (h : M a.block) : Chg M w (w.setCell a v) :=
  ⟨rfl, rfl, rfl, by rw [size_setCell]; exact Nat.le_refl _, fun k _ hn => heap_setCell w a v k (fun e => hn (e ▸ h))⟩
abbrev Plain (v : Value) : Prop := v.oneCell' = true
abbrev CellsAt (w : World) (b o : Nat) (cs : List Value) : Prop := w.rangeAt b o cs
theorem cell?_congr {w w' : World} {a : Addr} (h : w'.heap[a.block]? = w.heap[a.block]?) : w'.cell? a = w.cell? a := by
  unfold World.cell?; rw [h]
theorem CellsAt.agree {w w' : World} {b o : Nat} {cs : List Value} (h : CellsAt w b o cs) (e : w'.heap[b]? = w.heap[b]?) : CellsAt w' b o cs :=
  fun j v hj => (cell?_congr (a := ⟨b, o + j, none⟩) e).trans (h j v hj)
theorem cell?_lt {w : World} {a : Addr} {v : Value} (h : w.cell? a = some v) : a.block < w.heap.size := by
  unfold World.cell? at h
  rcases Nat.lt_or_ge a.block w.heap.size with hl | hl
  · exact hl
  · rw [Array.getElem?_eq_none hl] at h; cases h
theorem CellsAt.lt {w : World} {b o : Nat} {cs : List Value} (h : CellsAt w b o cs) (hc : 0 < cs.length) : b < w.heap.size := by
  have := h 0 _ (List.getElem?_eq_getElem hc)
  exact cell?_lt this
def In64 (x : Int) : Prop := -9223372036854775808 ≤ x ∧ x ≤ 9223372036854775807
structure SP where
  nil : Bool
  b : Nat
  off : Nat
  cap : Nat
  ad : Option Addr
def SP.addr (p : SP) : Option Addr := bif p.nil then p.ad else some ⟨p.b, p.off, none⟩
abbrev I (x : Int) : Value := .int .i64 x
abbrev B (b : Bool) : Value := .bool b
abbrev slv (n : Nat) (p : SP) : Value := .slice p.addr n p.cap
abbrev pt (b o : Nat) : Value := .pointer (some ⟨b, o, none⟩)
class GT (α : Type) where
  Ptr : Type
  dflt : α
  pdflt : Ptr
  width : Nat
  agg : Bool
  cells : α → Ptr → List Value
  rd : Nat → Bl → World → α → Ptr → Prop
  own : Nat → Bl → World → α → Ptr → Prop
  wpos : 0 < width
  len : ∀ x p, (cells x p).length = width
  one : agg = false → width = 1
  plain : ∀ x p v, v ∈ cells x p → Plain v
  rd_mono : ∀ {K K' : Nat} {F G : Bl} {w : World} {x : α} {p : Ptr}, rd K F w x p → K ≤ K' → (∀ b, F b → G b) → rd K' G w x p
  rd_agree : ∀ {K : Nat} {F : Bl} {w w' : World} {x : α} {p : Ptr}, rd K F w x p → (∀ b, F b → b < w.heap.size → w'.heap[b]? = w.heap[b]?) → rd K F w' x p
  rd_lt : ∀ {K : Nat} {F : Bl} {w : World} {x : α} {p : Ptr}, rd K F w x p → rd K (fun b => F b ∧ b < w.heap.size) w x p
  own_mono : ∀ {K K' : Nat} {F G : Bl} {w : World} {x : α} {p : Ptr}, own K F w x p → K ≤ K' → (∀ b, F b → G b) → own K' G w x p
  own_agree : ∀ {K : Nat} {F : Bl} {w w' : World} {x : α} {p : Ptr}, own K F w x p → (∀ b, F b → b < w.heap.size → w'.heap[b]? = w.heap[b]?) → own K F w' x p
  own_lt : ∀ {K : Nat} {F : Bl} {w : World} {x : α} {p : Ptr}, own K F w x p → own K (fun b => F b ∧ b < w.heap.size) w x p
  own_rd : ∀ {K : Nat} {F : Bl} {w : World} {x : α} {p : Ptr}, own K F w x p → rd K F w x p
  own_dflt : ∀ (K : Nat) (F : Bl) (w : World), own K F w dflt pdflt
def GT.val {α : Type} [GT α] (x : α) (p : GT.Ptr α) : Value := bif GT.agg α then .agg (GT.cells x p).toArray else (GT.cells x p).headD undef
instance : GT Int where
  Ptr := Unit
  dflt := 0
  pdflt := ()
  width := 1
  agg := false
  cells x _ := [I x]
  rd _ _ _ x _ := In64 x
  own _ _ _ x _ := In64 x
  wpos := Nat.one_pos
  len _ _ := rfl
  one _ := rfl
  plain _ _ v h := by simp at h; subst h; rfl
  rd_mono h _ _ := h
  rd_agree h _ := h
  rd_lt h := h
  own_mono h _ _ := h
  own_agree h _ := h
  own_lt h := h
  own_rd h := h
  own_dflt _ _ _ := ⟨by decide, by decide⟩
instance : GT Bool where
  Ptr := Unit
  dflt := false
  pdflt := ()
  width := 1
  agg := false
  cells x _ := [B x]
  rd _ _ _ _ _ := True
  own _ _ _ _ _ := True
  wpos := Nat.one_pos
  len _ _ := rfl
  one _ := rfl
  plain _ _ v h := by simp at h; subst h; rfl
  rd_mono h _ _ := h
  rd_agree h _ := h
  rd_lt h := h
  own_mono h _ _ := h
  own_agree h _ := h
  own_lt h := h
  own_rd h := h
  own_dflt _ _ _ := trivial
section lists
variable {α : Type} [GT α]
def el (xs : List α) (i : Nat) : α := xs.getD i (GT.dflt)
abbrev LP (α : Type) [GT α] := SP × (Nat → GT.Ptr α)
structure LRd (K : Nat) (F : Bl) (w : World) (xs : List α) (p : LP α) : Prop where
  le : xs.length ≤ K
  cap : xs.length ≤ p.1.cap
  at_ : 0 < xs.length → p.1.nil = false ∧ F p.1.b
  cell : ∀ i, i < xs.length → CellsAt w p.1.b (p.1.off + i * GT.width α) (GT.cells (el xs i) (p.2 i))
  el : ∀ i, i < xs.length → GT.rd K F w (el xs i) (p.2 i)
structure LOwn (K : Nat) (F : Bl) (w : World) (xs : List α) (p : LP α) : Prop where
  le : xs.length ≤ K
  cap : xs.length ≤ p.1.cap
  capm : p.1.cap ≤ 9223372036854775807
  null : p.1.nil = true → p.1.cap = 0
  row : p.1.nil = false → F p.1.b ∧ ∃ (cs : Array Value) (T : TypeId), w.heap[p.1.b]? = some (.cells cs T (0, 0)) ∧ p.1.off + p.1.cap * GT.width α ≤ cs.size
  cell : ∀ i, i < xs.length → CellsAt w p.1.b (p.1.off + i * GT.width α) (GT.cells (Go.Proofs.Ytgonaioedbphgaa.el xs i) (p.2 i))
  el : ∃ G : Nat → Bl, (∀ i, i < xs.length → GT.own K (G i) w (Go.Proofs.Ytgonaioedbphgaa.el xs i) (p.2 i)) ∧ (∀ i, i < xs.length → ∀ b, G i b → F b ∧ b ≠ p.1.b) ∧ (∀ i j, i < xs.length → j < xs.length → i ≠ j → Disj (G i) (G j))
instance : GT (List α) where
  Ptr := LP α
  dflt := []
  pdflt := (⟨true, 0, 0, 0, none⟩, fun _ => GT.pdflt)
  width := 1
  agg := false
  cells xs p := [slv xs.length p.1]
  rd := LRd
  own := LOwn
  wpos := Nat.one_pos
  len _ _ := rfl
  one _ := rfl
  plain _ _ v h := by simp at h; subst h; rfl
  rd_mono h hk hf := ⟨Nat.le_trans h.le hk, h.cap, fun z => ⟨(h.at_ z).1, hf _ (h.at_ z).2⟩, h.cell, fun i hi => GT.rd_mono (h.el i hi) hk hf⟩
  rd_agree h hw := ⟨h.le, h.cap, h.at_, fun i hi =>
      (h.cell i hi).agree (hw _ (h.at_ (Nat.lt_of_le_of_lt (Nat.zero_le _) hi)).2 ((h.cell i hi).lt (by rw [GT.len]; exact GT.wpos))),
    fun i hi => GT.rd_agree (h.el i hi) hw⟩
  rd_lt h := ⟨h.le, h.cap, fun z => ⟨(h.at_ z).1, (h.at_ z).2, (h.cell 0 z).lt (by rw [GT.len]; exact GT.wpos)⟩, h.cell, fun i hi => GT.rd_lt (h.el i hi)⟩
  own_mono h hk hf := by
    obtain ⟨G, g1, g2, g3⟩ := h.el
    exact ⟨Nat.le_trans h.le hk, h.cap, h.capm, h.null, fun z => ⟨hf _ (h.row z).1, (h.row z).2⟩, h.cell, G, fun i hi => GT.own_mono (g1 i hi) hk (fun _ x => x), fun i hi b hb => ⟨hf _ (g2 i hi b hb).1, (g2 i hi b hb).2⟩, g3⟩
  own_agree := by
    intro K F w w' xs p h hw
    have nn : ∀ i, i < xs.length → p.1.nil = false := fun i hi => by
      cases hn : p.1.nil with
      | false => rfl
      | true => have := h.null hn; have := h.cap; omega
    have hlt : p.1.nil = false → p.1.b < w.heap.size := fun hn => by
      obtain ⟨_, cs, T, h2, _⟩ := h.row hn
      rcases Nat.lt_or_ge p.1.b w.heap.size with hl | hl
      · exact hl
      · rw [Array.getElem?_eq_none hl] at h2; cases h2
    obtain ⟨G, g1, g2, g3⟩ := h.el
    refine ⟨h.le, h.cap, h.capm, h.null, fun z => ?_, fun i hi => (h.cell i hi).agree (hw _ (h.row (nn i hi)).1 (hlt (nn i hi))), G, fun i hi => GT.own_agree (g1 i hi) (fun b hb hl => hw b (g2 i hi b hb).1 hl), g2, g3⟩
    obtain ⟨h1, cs, T, h2, h3⟩ := h.row z
    exact ⟨h1, cs, T, (hw _ h1 (hlt z)).trans h2, h3⟩
  own_lt := by
    intro K F w xs p h
    have hlt : p.1.nil = false → p.1.b < w.heap.size := fun hn => by
      obtain ⟨_, cs, T, h2, _⟩ := h.row hn
      rcases Nat.lt_or_ge p.1.b w.heap.size with hl | hl
      · exact hl
      · rw [Array.getElem?_eq_none hl] at h2; cases h2
    obtain ⟨G, g1, g2, g3⟩ := h.el
    exact ⟨h.le, h.cap, h.capm, h.null, fun z => ⟨⟨(h.row z).1, hlt z⟩, (h.row z).2⟩, h.cell, fun i b => G i b ∧ b < w.heap.size, fun i hi => GT.own_lt (g1 i hi),
      fun i hi b hb => ⟨⟨(g2 i hi b hb.1).1, hb.2⟩, (g2 i hi b hb.1).2⟩, fun i j hi hj hn b x y => g3 i j hi hj hn b x.1 y.1⟩
  own_rd := by
    intro K F w xs p h
    have nn : 0 < xs.length → p.1.nil = false := fun hi => by
      cases hn : p.1.nil with
      | false => rfl
      | true => have := h.null hn; have := h.cap; omega
    obtain ⟨G, g1, g2, g3⟩ := h.el
    exact ⟨h.le, h.cap, fun z => ⟨nn z, (h.row (nn z)).1⟩, h.cell, fun i hi => GT.own_rd (GT.own_mono (g1 i hi) (Nat.le_refl _) (fun b hb => (g2 i hi b hb).1))⟩
  own_dflt K F w := ⟨Nat.zero_le _, Nat.zero_le _, Nat.zero_le _, fun _ => rfl, fun h => (by cases h), fun i hi => absurd hi (Nat.not_lt_zero _), fun _ => NoB, fun i hi => absurd hi (Nat.not_lt_zero _), fun i hi => absurd hi (Nat.not_lt_zero _), fun i _ hi => absurd hi (Nat.not_lt_zero _)⟩
end lists
end Go.Proofs.Ytgonaioedbphgaa
