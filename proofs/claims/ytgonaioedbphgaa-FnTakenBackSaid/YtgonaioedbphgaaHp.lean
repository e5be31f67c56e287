/- Steps on what a pointer to a host leads to. No program is named here. -/
import Derived.Test.YtgonaioedbphgaaClo
import Derived.Test.YtgonaioedbphgaaPt
import Derived.Test.YtgonaioedbphgaaSlice
import Derived.Test.YtgonaioedbphgaaDraw
namespace Go.Proofs.Ytgonaioedbphgaa
open Go
set_option linter.unusedVariables false
section
variable {w0 : World} {M : Bl} {u : World} {N : Bl}
theorem Disj.sub {A B C : Bl} (d : Disj A B) (h : ∀ b, C b → B b) : Disj A C := fun b x y => d b x (h b y)
def hdrH (p p' : PHost) : Prop := p'.mons.1 = p.mons.1
theorem rd_hdr {α : Type} [GT α] {K : Nat} {xs : List α} {p : LP α} {H : SP} (h : p.1 = H) (f : GT.rd K N u xs p) : GT.rd K N u xs ((H, p.2) : LP α) := h ▸ f
theorem foc_capmons {h : THost} {q : LP THost} {F : Bl} (o : Ow w0 M u N F [h] q) :
    ∃ H : Bl, Ow w0 M u N H h.mons (q.2 0).mons ∧ (∀ b, H b → F b) ∧ ∀ (u' : World) (N' : Bl) (y : List TMon) (p2 : Nat → PMon) (H' Fy : Bl), (∀ b, N b → ¬ H b → N' b ∧ u'.heap[b]? = u.heap[b]?) → Ow w0 M u' N' H' y (((q.2 0).mons.1, p2) : LP TMon) → (∀ b, H' b → H b ∨ Fy b) → Disj F Fy → y.length = h.mons.length → (∀ b, H b → N' b) →
      ∃ p3 : Nat → PHost, Ow w0 M u' N' (Or F H') [{ h with mons := y }] ((q.1, p3) : LP THost) ∧ (p3 0).mons.1 = (q.2 0).mons.1 := by
  obtain ⟨H, h1, h2, h3⟩ := foc3_Host_mons o (k := 0) (Nat.succ_pos 0)
  exact ⟨H, h1, h2, fun u' N' y p2 H' Fy a b c d e f => ⟨_, h3 u' N' y ((q.2 0).mons.1, p2) H' Fy a b c d (by show [slv _ _] = [slv _ _]; rw [e]; rfl) f, rfl⟩⟩
theorem capx_mem {K : Nat} {h : THost} {q : LP THost} (o : GT.rd K N u [h] q) : GT.rd K N u h.mem (q.2 0).mem := RHost.mem (d := h) (LRd.el o 0 (Nat.succ_pos 0))
theorem capx_mons {K : Nat} {h : THost} {q : LP THost} (o : GT.rd K N u [h] q) : GT.rd K N u h.mons (q.2 0).mons := RHost.mons (d := h) (LRd.el o 0 (Nat.succ_pos 0))
theorem cap_mons {K : Nat} {a : List (List Int)} {b : List TMon} {c d : List TEntry} {q : LP THost} (o : GT.rd K N u [(⟨a, b, c, d⟩ : THost)] q) : GT.rd K N u b (q.2 0).mons := capx_mons o
theorem capx_buf {K : Nat} {h : THost} {q : LP THost} (o : GT.rd K N u [h] q) : GT.rd K N u h.buf (q.2 0).buf := RHost.buf (d := h) (LRd.el o 0 (Nat.succ_pos 0))
theorem cap_buf {K : Nat} {a : List (List Int)} {b : List TMon} {c d : List TEntry} {q : LP THost} (o : GT.rd K N u [(⟨a, b, c, d⟩ : THost)] q) : GT.rd K N u c (q.2 0).buf := capx_buf o
theorem capx_iobuf {K : Nat} {h : THost} {q : LP THost} (o : GT.rd K N u [h] q) : GT.rd K N u h.iobuf (q.2 0).iobuf := RHost.iobuf (d := h) (LRd.el o 0 (Nat.succ_pos 0))
theorem cap_iobuf {K : Nat} {a : List (List Int)} {b : List TMon} {c d : List TEntry} {q : LP THost} (o : GT.rd K N u [(⟨a, b, c, d⟩ : THost)] q) : GT.rd K N u d (q.2 0).iobuf := capx_iobuf o
theorem foc_cap {β : Type} [GT β] {h : THost} {q : LP THost} {F : Bl} {m : Nat} {L : List β} {pl : LP β} {upd : List β → TMon} (o : Ow w0 M u N F [h] q)
    (hf : ∀ F : Bl, Ow w0 M u N F h.mons (q.2 0).mons → ∃ H : Bl, Ow w0 M u N H L pl ∧ (∀ b, H b → F b) ∧ ∀ (u' : World) (N' : Bl) (y : List β) (q' : LP β) (H' Fy : Bl), (∀ b, N b → ¬ H b → N' b ∧ u'.heap[b]? = u.heap[b]?) → Ow w0 M u' N' H' y q' → (∀ b, H' b → H b ∨ Fy b) → Disj F Fy → GT.cells y q' = GT.cells L pl → (∀ b, H b → N' b) →
      ∃ p2, Ow w0 M u' N' (Or F H') (h.mons.set m (upd y)) (((q.2 0).mons.1, p2) : LP TMon) ∧ ∀ j, GT.cells (el (h.mons.set m (upd y)) j) (p2 j) = GT.cells (el h.mons j) ((q.2 0).mons.2 j)) :
    ∃ H : Bl, Ow w0 M u N H L pl ∧ (∀ b, H b → F b) ∧ ∀ (u' : World) (N' : Bl) (y : List β) (p2 : Nat → GT.Ptr β) (H' Fy : Bl), (∀ b, N b → ¬ H b → N' b ∧ u'.heap[b]? = u.heap[b]?) → Ow w0 M u' N' H' y ((pl.1, p2) : LP β) → (∀ b, H' b → H b ∨ Fy b) → Disj F Fy → y.length = L.length → (∀ b, N b → N' b) →
      ∃ p3 : Nat → PHost, Ow w0 M u' N' (Or F H') [{ h with mons := h.mons.set m (upd y) }] ((q.1, p3) : LP THost) ∧ (p3 0).mons.1 = (q.2 0).mons.1 := by
  obtain ⟨H0, g1, g2, g3⟩ := foc_capmons o
  obtain ⟨H, h1, h2, h3⟩ := hf H0 g1
  refine ⟨H, h1, fun b hb => g2 b (h2 b hb), fun u' N' y p2 H' Fy up oy hs hd hl hN => ?_⟩
  obtain ⟨p4, o4, _⟩ := h3 u' N' y (pl.1, p2) H' Fy up oy hs (fun b x z => hd b (g2 b x) z) (by show [slv _ _] = [slv _ _]; rw [hl]) (fun b hb => hN b (g1.sub b (h2 b hb)))
  obtain ⟨p3, o3, e3⟩ := g3 u' N' _ p4 _ Fy (fun b hb hn => up b hb fun hH => hn (h2 b hH)) o4 (fun b hb => hb.elim .inl fun hb => (hs b hb).imp (h2 b) id) hd (List.length_set) (fun b hb => hN b (g1.sub b hb))
  exact ⟨p3, ⟨GT.own_mono o3.own (Nat.le_refl _) (fun b hb => hb.elim .inl fun hb => hb.imp (g2 b) id), fun b hb => hb.elim (fun hb => o3.sub b (.inl hb)) (fun hb => o3.sub b (.inr (.inr hb))), fun b hb => hb.elim (fun hb => o3.young b (.inl hb)) (fun hb => o3.young b (.inr (.inr hb)))⟩, e3⟩
def RetT3 {α : Type} [GT α] (Mc F : Bl) (w : World) (r : α) (k : Int) (c : Bool) (e : Ending) (w' : World) : Prop :=
  ∃ q F', e = .returned (.tuple #[GT.val r q, I k, B c]) ∧ Chg Mc w w' ∧ GT.own KK F' w' r q ∧ In64 k ∧ ∀ b, F' b → F b ∨ (w.heap.size ≤ b ∧ b < w'.heap.size)
section
variable {P : Program} {n : Nat} {β : Nat → Nat} {σ : Sy} {a : Act} {w : World} {ops : Array Oper} {Q : Exit → Act → World → Prop} {K' : Act → World → Prop}
end
theorem Ow.sl {α : Type} [GT α] {xs : List α} {p : LP α} {F : Bl} (o : Ow w0 M u N F xs p) {a b : Nat} (hab : a ≤ b) (hb : b ≤ xs.length) : Ow w0 M u N F ((xs.drop a).take (b - a)) ((p.1.sl a (GT.width α), fun i => p.2 (a + i)) : LP α) := by
  refine ⟨?_, o.sub, o.young⟩
  have h : LOwn KK F u xs p := o.own
  have hlen : ((xs.drop a).take (b - a)).length = b - a := by simp; omega
  have hel : ∀ i, i < b - a → el ((xs.drop a).take (b - a)) i = el xs (a + i) := fun i hi => by
    unfold el
    rw [List.getD_eq_getElem?_getD, List.getD_eq_getElem?_getD, List.getElem?_take_of_lt hi, List.getElem?_drop]
  have hcap := h.cap
  obtain ⟨G, g1, g2, g3⟩ := h.el
  show LOwn KK F u _ _
  refine ⟨by have := h.le; omega, by show _ ≤ p.1.cap - a; omega, by show p.1.cap - a ≤ _; have := h.capm; omega, fun z => by show p.1.cap - a = 0; have := h.null z; omega, fun z => ?_, fun i hi => ?_, fun i => G (a + i), fun i hi => ?_, fun i hi c hc => ?_, fun i j hi hj hij => ?_⟩
  · obtain ⟨r1, cs, T, r2, r3⟩ := h.row z
    refine ⟨r1, cs, T, r2, ?_⟩
    show (bif p.1.cap == a then p.1.off else p.1.off + a * GT.width α) + (p.1.cap - a) * GT.width α ≤ cs.size
    have e2 : p.1.cap * GT.width α = a * GT.width α + (p.1.cap - a) * GT.width α := by rw [← Nat.add_mul]; congr 1; omega
    cases p.1.cap == a
    · simp only [cond_false]; omega
    · simp only [cond_true]; omega
  · rw [hlen] at hi
    rw [hel i hi]
    have e1 : (p.1.cap == a) = false := by simp; omega
    have := h.cell (a + i) (by omega)
    show CellsAt u p.1.b ((bif p.1.cap == a then p.1.off else p.1.off + a * GT.width α) + i * GT.width α) _
    rw [e1]
    simp only [cond_false]
    rw [Nat.add_assoc, ← Nat.add_mul]
    exact this
  · rw [hlen] at hi
    rw [hel i hi]
    exact g1 (a + i) (by omega)
  · rw [hlen] at hi
    exact g2 (a + i) (by omega) c hc
  · rw [hlen] at hi hj
    exact g3 (a + i) (a + j) (by omega) (by omega) (by omega)
end
theorem setm_outer {X xs : List TMon} {k : Nat} {y : List TSlot} (h : X = xs.set k { el xs k with outer := y }) (hk : k < xs.length) (hy : y.length = (el xs k).outer.length) : (X.length = xs.length ∧ (el X k).outer.length = (el xs k).outer.length ∧ (el X k).out.length = (el xs k).out.length ∧ (el X k).dirty.length = (el xs k).dirty.length ∧ (el X k).guests.length = (el xs k).guests.length ∧ (el X k).outs.length = (el xs k).outs.length ∧ (el X k).tables.length = (el xs k).tables.length) ∧ el X k = { el xs k with outer := y } := by
  subst h; rw [el_set_self hk]; exact ⟨⟨List.length_set, hy, rfl, rfl, rfl, rfl, rfl⟩, rfl⟩
theorem setm_out {X xs : List TMon} {k : Nat} {y : List (List Int)} (h : X = xs.set k { el xs k with out := y }) (hk : k < xs.length) (hy : y.length = (el xs k).out.length) : (X.length = xs.length ∧ (el X k).outer.length = (el xs k).outer.length ∧ (el X k).out.length = (el xs k).out.length ∧ (el X k).dirty.length = (el xs k).dirty.length ∧ (el X k).guests.length = (el xs k).guests.length ∧ (el X k).outs.length = (el xs k).outs.length ∧ (el X k).tables.length = (el xs k).tables.length) ∧ el X k = { el xs k with out := y } := by
  subst h; rw [el_set_self hk]; exact ⟨⟨List.length_set, rfl, hy, rfl, rfl, rfl, rfl⟩, rfl⟩
theorem setm_dirty {X xs : List TMon} {k : Nat} {y : List Bool} (h : X = xs.set k { el xs k with dirty := y }) (hk : k < xs.length) (hy : y.length = (el xs k).dirty.length) : (X.length = xs.length ∧ (el X k).outer.length = (el xs k).outer.length ∧ (el X k).out.length = (el xs k).out.length ∧ (el X k).dirty.length = (el xs k).dirty.length ∧ (el X k).guests.length = (el xs k).guests.length ∧ (el X k).outs.length = (el xs k).outs.length ∧ (el X k).tables.length = (el xs k).tables.length) ∧ el X k = { el xs k with dirty := y } := by
  subst h; rw [el_set_self hk]; exact ⟨⟨List.length_set, rfl, rfl, hy, rfl, rfl, rfl⟩, rfl⟩
theorem setm_tables {X xs : List TMon} {k : Nat} {y : List TKept} (h : X = xs.set k { el xs k with tables := y }) (hk : k < xs.length) (hy : y.length = (el xs k).tables.length) : (X.length = xs.length ∧ (el X k).outer.length = (el xs k).outer.length ∧ (el X k).out.length = (el xs k).out.length ∧ (el X k).dirty.length = (el xs k).dirty.length ∧ (el X k).guests.length = (el xs k).guests.length ∧ (el X k).outs.length = (el xs k).outs.length ∧ (el X k).tables.length = (el xs k).tables.length) ∧ el X k = { el xs k with tables := y } := by
  subst h; rw [el_set_self hk]; exact ⟨⟨List.length_set, rfl, rfl, rfl, rfl, rfl, hy⟩, rfl⟩
theorem set_self {α : Type} [GT α] {xs : List α} {k : Nat} : xs.set k (el xs k) = xs := by
  by_cases h : k < xs.length
  · rw [el_lt h]; exact List.set_getElem_self h
  · exact List.set_eq_of_length_le (by omega)
end Go.Proofs.Ytgonaioedbphgaa
