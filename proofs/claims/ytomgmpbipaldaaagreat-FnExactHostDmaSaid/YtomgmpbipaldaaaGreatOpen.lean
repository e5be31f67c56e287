/- Arguments that read as data are typed data. No program is named here. -/
import Derived.Test.YtomgmpbipaldaaaGreatTypes
import Derived.OpenShut
import Derived.Deep.Slices
namespace Go.Proofs.YtomgmpbipaldaaaGreat
open Go
def Opens (P : Program) (t : TypeId) (α : Type) [GT α] : Prop :=
  P.cellsOf t = GT.width α ∧ ∀ (H : Type) (enc : TypeId × Value → H) (w : World) (fuel : Nat) (cs : List Value) (x : DataW H × List MemPlace),
    DataW.trod enc P w 0 (fun _ => true) true fuel t cs = some x → ∃ (d : α) (p : GT.Ptr α), cs = GT.cells d p ∧ GT.rd KR (Lt w.heap.size) w d p
theorem opens_int {P : Program} {t : TypeId} (ht : P.underlying t = some (.int .i64)) (hc : P.cellsOf t = 1) : Opens P t Int := by
  refine ⟨hc, fun H enc w fuel cs x h => ?_⟩
  cases fuel with
  | zero => simp [DataW.trod] at h
  | succ n =>
    unfold DataW.trod at h
    rw [ht] at h
    split at h <;> simp_all
    rename_i k k' n' hk
    subst hk
    obtain ⟨⟨rfl, hw⟩, _⟩ := h
    refine ⟨n', (), by rfl, ?_⟩
    have := bounds_i64 hw
    exact ⟨this.1, this.2⟩
theorem opens_bool {P : Program} {t : TypeId} (ht : P.underlying t = some .bool) (hc : P.cellsOf t = 1) : Opens P t Bool := by
  refine ⟨hc, fun H enc w fuel cs x h => ?_⟩
  cases fuel with
  | zero => simp [DataW.trod] at h
  | succ n =>
    unfold DataW.trod at h
    rw [ht] at h
    split at h <;> simp_all
    rename_i b
    cases b
    · exact .inl ⟨(), rfl, trivial⟩
    · exact .inr ⟨(), rfl, trivial⟩
theorem opens_slice {P : Program} {t e : TypeId} {α : Type} [GT α] (ht : P.underlying t = some (.slice e)) (hc : P.cellsOf t = 1) (ho : Opens P e α) : Opens P t (List α) := by
  refine ⟨hc, fun H enc w fuel cs x h => ?_⟩
  rcases Go.Deep.open_slice ht h with ⟨rfl, _⟩ | ⟨a, len, cap, m, n, D, Pl, rfl, _, hl, hm, hmm, _, hx⟩
  · exact ⟨[], GT.pdflt, rfl, GT.own_rd (GT.own_dflt _ _ _)⟩
  simp only [if_true] at hmm
  subst hmm
  have : Inhabited α := ⟨GT.dflt⟩
  have : Inhabited (GT.Ptr α) := ⟨GT.pdflt⟩
  obtain ⟨f, hf⟩ := Go.Deep.choose_lt (α := α × GT.Ptr α) (n := m) (p := fun i y => w.cells? 0 (a.add (i * P.cellsOf e)) (P.cellsOf e) = some (GT.cells y.1 y.2) ∧ GT.rd KR (Lt w.heap.size) w y.1 y.2) (fun i hi => by
    obtain ⟨cs', h1, h2⟩ := hx i hi
    obtain ⟨d, p, rfl, h3⟩ := ho.2 H enc w n cs' _ h2
    exact ⟨(d, p), h1, h3⟩)
  have hlen : ((List.range len).map fun i => (f i).1).length = len := by simp
  have hel : ∀ i, i < len → el ((List.range len).map fun i => (f i).1) i = (f i).1 := fun i hi => by simp [el, hi]
  by_cases h0 : m = 0
  · obtain rfl : len = 0 := by omega
    subst h0
    exact ⟨[], (⟨true, 0, 0, 0, some a⟩, fun _ => GT.pdflt), rfl, Nat.zero_le _, Nat.zero_le _, fun h => absurd h (Nat.lt_irrefl _), fun i hi => absurd hi (Nat.not_lt_zero _), fun i hi => absurd hi (Nat.not_lt_zero _)⟩
  have hsp : ∃ b o, a = ⟨b, o, none⟩ := by
    obtain ⟨_, hl2, hc2⟩ := World.cells?_some (hf 0 (by omega)).1
    have h3 := hc2 0 (by rw [ho.1]; exact GT.wpos)
    have hg : ∃ v, (GT.cells (f 0).1 (f 0).2)[0]? = some v := ⟨_, List.getElem?_eq_getElem (by rw [GT.len]; exact GT.wpos)⟩
    obtain ⟨v, hv⟩ := hg
    rw [hv, Nat.zero_mul] at h3
    simp only [Addr.add, if_true] at h3
    obtain ⟨b, o, s⟩ := a
    cases s with
    | none => exact ⟨b, o, rfl⟩
    | some s => unfold World.cell? at h3; split at h3 <;> simp at h3
  obtain ⟨b, o, rfl⟩ := hsp
  have hcell : ∀ i, i < m → CellsAt w b (o + i * GT.width α) (GT.cells (f i).1 (f i).2) := fun i hi => by
    obtain ⟨_, hl2, hc2⟩ := World.cells?_some (hf i hi).1
    intro j v hj
    have hjl := (List.getElem?_eq_some_iff.1 hj).1
    have h3 := hc2 j (by omega)
    rw [hj, ho.1, Go.Deep.add_add] at h3
    have e : (Addr.mk b o none).add (i * GT.width α + j) = ⟨b, o + i * GT.width α + j, none⟩ := by
      unfold Addr.add
      split
      · rename_i h; simp
      · simp [Nat.add_assoc]
    rwa [e] at h3
  refine ⟨(List.range len).map fun i => (f i).1, (⟨false, b, o, m, none⟩, fun i => (f i).2), ?_, ?_, ?_, ?_, ?_, ?_⟩
  · show [Value.slice (some _) len m] = [slv (List.length _) _]
    rw [hlen]
    rfl
  · rw [hlen]; unfold maxLen at hm; unfold KR; omega
  · rw [hlen]; exact hl
  · intro h
    refine ⟨rfl, ?_⟩
    exact (hcell 0 (by omega)).lt (by rw [GT.len]; exact GT.wpos)
  · intro i hi
    rw [hlen] at hi
    rw [hel i hi]
    exact hcell i (by omega)
  · intro i hi
    rw [hlen] at hi
    rw [hel i hi]
    exact (hf i (by omega)).2
theorem field_open {H : Type} {enc : TypeId × Value → H} {P : Program} {w : World} {fs : Array Field} {L : List (TypeId × Nat)} (hf : fs.toList.map (fun f => (f.type, f.offset)) = L) {n : Nat} {cs : List Value} {xs : List (DataW H × List MemPlace)}
    (hl : xs.length = fs.size) (hx : ∀ (i : Nat) (f : Field), fs[i]? = some f → DataW.trod enc P w 0 (fun _ => true) true n f.type ((cs.drop f.offset).take (P.cellsOf f.type)) = xs[i]?)
    (i : Nat) {t : TypeId} {o : Nat} (hi : L[i]? = some (t, o)) {α : Type} [GT α] (ho : Opens P t α) : ∃ (d : α) (p : GT.Ptr α), (cs.drop o).take (GT.width α) = GT.cells d p ∧ GT.rd KR (Lt w.heap.size) w d p := by
  subst hf
  rw [List.getElem?_map, Option.map_eq_some_iff] at hi
  obtain ⟨f, h1, h2⟩ := hi
  simp only [Prod.mk.injEq] at h2
  obtain ⟨rfl, rfl⟩ := h2
  have h3 : fs[i]? = some f := by simpa using h1
  have h4 := hx i f h3
  have hlt : i < xs.length := by
    rw [hl]
    exact (Array.getElem?_eq_some_iff.1 h3).1
  rw [List.getElem?_eq_getElem hlt, ho.1] at h4
  exact ho.2 H enc w n _ _ h4
theorem dr {cs c : List Value} {o w : Nat} (h : (cs.drop o).take w = c) (o' : Nat) (e : o' = o + w) : cs.drop o = c ++ cs.drop o' := by
  subst h e
  rw [← List.drop_drop, List.take_append_drop]
theorem dr_end {cs : List Value} {o : Nat} (h : cs.length = o) : cs.drop o = [] := by
  subst h
  exact List.drop_length
theorem arg_agg {H : Type} {enc : TypeId × Value → H} {P : Program} {w : World} {t : TypeId} {α : Type} [GT α] (ho : Opens P t α) {fs : Array Field} (ht : P.underlying t = some (.struct fs)) (ha : GT.agg α = true)
    {r : Reach} {b0 : Nat} {v : Value} (hv : Value.okWide P w r b0 t v) {d : DataW H} {ps : List MemPlace} (h : DataW.Trod enc P w 0 (fun _ => true) true t v d ps) :
    ∃ (d : α) (p : GT.Ptr α), v = GT.val d p ∧ GT.rd KR (Lt w.heap.size) w d p := by
  obtain ⟨cs, rfl, _⟩ := Go.WideShapes.okWide_struct ht hv
  obtain ⟨fuel, hf⟩ := h
  obtain ⟨x, p, h1, h2⟩ := ho.2 H enc w fuel _ _ hf
  refine ⟨x, p, ?_, h2⟩
  unfold GT.val
  rw [ha, cond_true, ← h1]
  rfl
theorem arg_int {H : Type} {enc : TypeId × Value → H} {P : Program} {w : World} {t : TypeId} (ht : P.underlying t = some (.int .i64))
    {r : Reach} {b0 : Nat} {v : Value} (hv : Value.okWide P w r b0 t v) {d : DataW H} {ps : List MemPlace} (h : DataW.Trod enc P w 0 (fun _ => true) true t v d ps) : ∃ x : Int, v = I x ∧ In64 x := by
  obtain ⟨x, rfl, _, _, hw⟩ := Go.ChangeShapes.open_int ht hv h
  exact ⟨x, rfl, (bounds_i64 hw).1, (bounds_i64 hw).2⟩
theorem trodAll_app {H : Type} {enc : TypeId × Value → H} {P : Program} {w : World} {base : Nat} {spare : Nat → Bool} {held : Bool} {ts' : List TypeId} {vs' : List Value} {ds' : List (DataW H)} {p' : List MemPlace} (h' : DataW.TrodAll enc P w base spare held ts' vs' ds' p') :
    ∀ {ts : List TypeId} {vs : List Value} {ds : List (DataW H)} {p : List MemPlace}, DataW.TrodAll enc P w base spare held ts vs ds p → DataW.TrodAll enc P w base spare held (ts ++ ts') (vs ++ vs') (ds ++ ds') (p ++ p')
  | [], _, _, _, h => by
    obtain ⟨rfl, rfl, rfl⟩ := Go.ChangeShapes.trodAll_nil h
    exact h'
  | _ :: _, _, _, _, h => by
    obtain ⟨v, vs1, d, ds1, a, b, rfl, rfl, rfl, h1, h2⟩ := Go.ChangeShapes.trodAll_cons h
    exact ⟨a, b ++ p', h1, trodAll_app h' h2, by simp⟩
theorem post_law {H : Type} {enc : TypeId × Value → H} {P : Program} {f : Func} {s : ChangeSpec} {apart fresh handsOn again : Bool} {W W' : World} {args : Array Value} {v : Value} {ds gs : List (DataW H)} {before pa pv : List MemPlace}
    (hW : DataW.Whole enc P f.params.toList s.vars apart W args.toList ds gs before)
    (hres : ∀ (b : Nat) (sp : Nat → Bool) (hd : Bool), DataW.TrodAll enc P W' b sp hd f.resultTypes.toList (v.resultList f.resultTypes.size) (s.fn H (ds ++ gs)).results [])
    (hargs : ∀ sp : Nat → Bool, (∀ p ∈ before, sp p.block = true) → DataW.TrodAll enc P W' 0 sp true f.params.toList args.toList (s.fn H (ds ++ gs)).args pa)
    (hvars : ∀ sp : Nat → Bool, (∀ p ∈ before, sp p.block = true) → DataW.TrodVars enc P W' sp s.vars (s.fn H (ds ++ gs)).vars pv)
    (hps : before = pa ++ pv) (hb : RowKit.Below W.heap.size W W')
    (hok : ∀ (j : Nat) (t : TypeId) (r : Value), f.resultTypes[j]? = some t → (v.resultList f.resultTypes.size)[j]? = some r → Value.okWide P W' .any 0 t r) :
    s.post enc P f apart fresh handsOn again W args v W' := by
  have hold : ∀ p ∈ before, (fun b => decide (b < W.heap.size)) p.block = true := fun p hp => by simpa using hW.lt p hp
  have hlt := hW.lt
  refine ⟨ds, gs, before, [], pa, pv, hW, hres _ _ _, hargs _ hold, hvars _ hold, World.keptBut_mono (fun p hp => ⟨hp, ?_⟩) (hb.frame (· ∈ before)), fun _ => ?_⟩
  · rw [hps, List.mem_append] at hp
    exact Or.inr hp
  · obtain ⟨_, _, _, _, _, hz, hn⟩ := hW
    refine ⟨hok, _, _, ([] ++ pa) ++ pv, ⟨[] ++ pa, pv, trodAll_app (hargs _ (fun _ _ => rfl)) (hres _ _ _), hvars _ (fun _ _ => rfl), rfl, ?_, ?_⟩, ?_⟩
    · intro b off hp
      have hp' : MemPlace.cell b off ∈ before := by rw [hps]; simpa using hp
      rw [hb.frozen (p := ⟨b, off, none⟩) (hlt _ hp')]
      exact hz b off hp'
    · intro ha
      have := hn ha
      rw [hps] at this
      simpa using this
    · intro p hp _
      rw [hps]
      simpa using hp
theorem opens_Slot {P : Program} {t : TypeId} {fs : Array Field} {t0 t1 : TypeId} (ht : P.underlying t = some (.struct fs)) (hc : P.cellsOf t = 2) (hf : fs.toList.map (fun f => (f.type, f.offset)) = [(t0, 0), (t1, 1)]) (h0 : Opens P t0 (Int)) (h1 : Opens P t1 (Int)) : Opens P t TSlot := by
  refine ⟨hc, fun H enc w fuel cs x h => ?_⟩
  obtain ⟨xs, n, _, _, hl, hxl, hx⟩ := DataW.trod_struct ht h
  obtain ⟨d0, p0, e0, r0⟩ := field_open hf hxl hx 0 rfl h0
  obtain ⟨d1, p1, e1, r1⟩ := field_open hf hxl hx 1 rfl h1
  refine ⟨⟨d0, d1⟩, (), ?_, ⟨r0, r1⟩⟩
  have e : cs.drop 0 = _ := dr e0 1 rfl
  rw [dr e1 2 rfl, dr_end (hl.trans hc)] at e
  exact e
theorem opens_Kept {P : Program} {t : TypeId} {fs : Array Field} {t0 t1 : TypeId} (ht : P.underlying t = some (.struct fs)) (hc : P.cellsOf t = 2) (hf : fs.toList.map (fun f => (f.type, f.offset)) = [(t0, 0), (t1, 1)]) (h0 : Opens P t0 (List Bool)) (h1 : Opens P t1 (List TSlot)) : Opens P t TKept := by
  refine ⟨hc, fun H enc w fuel cs x h => ?_⟩
  obtain ⟨xs, n, _, _, hl, hxl, hx⟩ := DataW.trod_struct ht h
  obtain ⟨d0, p0, e0, r0⟩ := field_open hf hxl hx 0 rfl h0
  obtain ⟨d1, p1, e1, r1⟩ := field_open hf hxl hx 1 rfl h1
  refine ⟨⟨d0, d1⟩, ⟨p0, p1⟩, ?_, ⟨r0, r1⟩⟩
  have e : cs.drop 0 = _ := dr e0 1 rfl
  rw [dr e1 2 rfl, dr_end (hl.trans hc)] at e
  exact e
theorem opens_Entry {P : Program} {t : TypeId} {fs : Array Field} {t0 t1 t2 t3 : TypeId} (ht : P.underlying t = some (.struct fs)) (hc : P.cellsOf t = 4) (hf : fs.toList.map (fun f => (f.type, f.offset)) = [(t0, 0), (t1, 1), (t2, 2), (t3, 3)]) (h0 : Opens P t0 (Int)) (h1 : Opens P t1 (Int)) (h2 : Opens P t2 (Int)) (h3 : Opens P t3 (Int)) : Opens P t TEntry := by
  refine ⟨hc, fun H enc w fuel cs x h => ?_⟩
  obtain ⟨xs, n, _, _, hl, hxl, hx⟩ := DataW.trod_struct ht h
  obtain ⟨d0, p0, e0, r0⟩ := field_open hf hxl hx 0 rfl h0
  obtain ⟨d1, p1, e1, r1⟩ := field_open hf hxl hx 1 rfl h1
  obtain ⟨d2, p2, e2, r2⟩ := field_open hf hxl hx 2 rfl h2
  obtain ⟨d3, p3, e3, r3⟩ := field_open hf hxl hx 3 rfl h3
  refine ⟨⟨d0, d1, d2, d3⟩, (), ?_, ⟨r0, r1, r2, r3⟩⟩
  have e : cs.drop 0 = _ := dr e0 1 rfl
  rw [dr e1 2 rfl, dr e2 3 rfl, dr e3 4 rfl, dr_end (hl.trans hc)] at e
  exact e
theorem opens_Ins {P : Program} {t : TypeId} {fs : Array Field} {t0 t1 : TypeId} (ht : P.underlying t = some (.struct fs)) (hc : P.cellsOf t = 2) (hf : fs.toList.map (fun f => (f.type, f.offset)) = [(t0, 0), (t1, 1)]) (h0 : Opens P t0 (Int)) (h1 : Opens P t1 (Int)) : Opens P t TIns := by
  refine ⟨hc, fun H enc w fuel cs x h => ?_⟩
  obtain ⟨xs, n, _, _, hl, hxl, hx⟩ := DataW.trod_struct ht h
  obtain ⟨d0, p0, e0, r0⟩ := field_open hf hxl hx 0 rfl h0
  obtain ⟨d1, p1, e1, r1⟩ := field_open hf hxl hx 1 rfl h1
  refine ⟨⟨d0, d1⟩, (), ?_, ⟨r0, r1⟩⟩
  have e : cs.drop 0 = _ := dr e0 1 rfl
  rw [dr e1 2 rfl, dr_end (hl.trans hc)] at e
  exact e
theorem opens_Ctl {P : Program} {t : TypeId} {fs : Array Field} {t0 t1 t2 : TypeId} (ht : P.underlying t = some (.struct fs)) (hc : P.cellsOf t = 3) (hf : fs.toList.map (fun f => (f.type, f.offset)) = [(t0, 0), (t1, 1), (t2, 2)]) (h0 : Opens P t0 (Int)) (h1 : Opens P t1 (Int)) (h2 : Opens P t2 (Bool)) : Opens P t TCtl := by
  refine ⟨hc, fun H enc w fuel cs x h => ?_⟩
  obtain ⟨xs, n, _, _, hl, hxl, hx⟩ := DataW.trod_struct ht h
  obtain ⟨d0, p0, e0, r0⟩ := field_open hf hxl hx 0 rfl h0
  obtain ⟨d1, p1, e1, r1⟩ := field_open hf hxl hx 1 rfl h1
  obtain ⟨d2, p2, e2, r2⟩ := field_open hf hxl hx 2 rfl h2
  refine ⟨⟨d0, d1, d2⟩, (), ?_, ⟨r0, r1⟩⟩
  have e : cs.drop 0 = _ := dr e0 1 rfl
  rw [dr e1 2 rfl, dr e2 3 rfl, dr_end (hl.trans hc)] at e
  exact e
theorem opens_Exit {P : Program} {t : TypeId} {fs : Array Field} {t0 t1 t2 t3 : TypeId} (ht : P.underlying t = some (.struct fs)) (hc : P.cellsOf t = 4) (hf : fs.toList.map (fun f => (f.type, f.offset)) = [(t0, 0), (t1, 1), (t2, 2), (t3, 3)]) (h0 : Opens P t0 (Int)) (h1 : Opens P t1 (Int)) (h2 : Opens P t2 (Bool)) (h3 : Opens P t3 (Int)) : Opens P t TExit := by
  refine ⟨hc, fun H enc w fuel cs x h => ?_⟩
  obtain ⟨xs, n, _, _, hl, hxl, hx⟩ := DataW.trod_struct ht h
  obtain ⟨d0, p0, e0, r0⟩ := field_open hf hxl hx 0 rfl h0
  obtain ⟨d1, p1, e1, r1⟩ := field_open hf hxl hx 1 rfl h1
  obtain ⟨d2, p2, e2, r2⟩ := field_open hf hxl hx 2 rfl h2
  obtain ⟨d3, p3, e3, r3⟩ := field_open hf hxl hx 3 rfl h3
  refine ⟨⟨d0, d1, d2, d3⟩, (), ?_, ⟨r0, r1, r3⟩⟩
  have e : cs.drop 0 = _ := dr e0 1 rfl
  rw [dr e1 2 rfl, dr e2 3 rfl, dr e3 4 rfl, dr_end (hl.trans hc)] at e
  exact e
theorem opens_Guest {P : Program} {t : TypeId} {fs : Array Field} {t0 t1 t2 t3 t4 t5 t6 t7 t8 t9 : TypeId} (ht : P.underlying t = some (.struct fs)) (hc : P.cellsOf t = 15) (hf : fs.toList.map (fun f => (f.type, f.offset)) = [(t0, 0), (t1, 1), (t2, 2), (t3, 3), (t4, 4), (t5, 5), (t6, 8), (t7, 9), (t8, 13), (t9, 14)]) (h0 : Opens P t0 (List TIns)) (h1 : Opens P t1 (Int)) (h2 : Opens P t2 (Int)) (h3 : Opens P t3 (List TSlot)) (h4 : Opens P t4 (List TSlot)) (h5 : Opens P t5 (TCtl)) (h6 : Opens P t6 (Int)) (h7 : Opens P t7 (TExit)) (h8 : Opens P t8 (Bool)) (h9 : Opens P t9 (List Int)) : Opens P t TGuest := by
  refine ⟨hc, fun H enc w fuel cs x h => ?_⟩
  obtain ⟨xs, n, _, _, hl, hxl, hx⟩ := DataW.trod_struct ht h
  obtain ⟨d0, p0, e0, r0⟩ := field_open hf hxl hx 0 rfl h0
  obtain ⟨d1, p1, e1, r1⟩ := field_open hf hxl hx 1 rfl h1
  obtain ⟨d2, p2, e2, r2⟩ := field_open hf hxl hx 2 rfl h2
  obtain ⟨d3, p3, e3, r3⟩ := field_open hf hxl hx 3 rfl h3
  obtain ⟨d4, p4, e4, r4⟩ := field_open hf hxl hx 4 rfl h4
  obtain ⟨d5, p5, e5, r5⟩ := field_open hf hxl hx 5 rfl h5
  obtain ⟨d6, p6, e6, r6⟩ := field_open hf hxl hx 6 rfl h6
  obtain ⟨d7, p7, e7, r7⟩ := field_open hf hxl hx 7 rfl h7
  obtain ⟨d8, p8, e8, r8⟩ := field_open hf hxl hx 8 rfl h8
  obtain ⟨d9, p9, e9, r9⟩ := field_open hf hxl hx 9 rfl h9
  refine ⟨⟨d0, d1, d2, d3, d4, d5, d6, d7, d8, d9⟩, ⟨p0, p3, p4, p9⟩, ?_, ⟨r0, r1, r2, r3, r4, r5, r6, r7, r9⟩⟩
  have e : cs.drop 0 = _ := dr e0 1 rfl
  rw [dr e1 2 rfl, dr e2 3 rfl, dr e3 4 rfl, dr e4 5 rfl, dr e5 8 rfl, dr e6 9 rfl, dr e7 13 rfl, dr e8 14 rfl, dr e9 15 rfl, dr_end (hl.trans hc)] at e
  exact e
theorem opens_Mon {P : Program} {t : TypeId} {fs : Array Field} {t0 t1 t2 t3 t4 t5 t6 t7 t8 : TypeId} (ht : P.underlying t = some (.struct fs)) (hc : P.cellsOf t = 9) (hf : fs.toList.map (fun f => (f.type, f.offset)) = [(t0, 0), (t1, 1), (t2, 2), (t3, 3), (t4, 4), (t5, 5), (t6, 6), (t7, 7), (t8, 8)]) (h0 : Opens P t0 (List TSlot)) (h1 : Opens P t1 (List (List Int))) (h2 : Opens P t2 (List Bool)) (h3 : Opens P t3 (List TGuest)) (h4 : Opens P t4 (List Int)) (h5 : Opens P t5 (Int)) (h6 : Opens P t6 (Int)) (h7 : Opens P t7 (List TKept)) (h8 : Opens P t8 (Int)) : Opens P t TMon := by
  refine ⟨hc, fun H enc w fuel cs x h => ?_⟩
  obtain ⟨xs, n, _, _, hl, hxl, hx⟩ := DataW.trod_struct ht h
  obtain ⟨d0, p0, e0, r0⟩ := field_open hf hxl hx 0 rfl h0
  obtain ⟨d1, p1, e1, r1⟩ := field_open hf hxl hx 1 rfl h1
  obtain ⟨d2, p2, e2, r2⟩ := field_open hf hxl hx 2 rfl h2
  obtain ⟨d3, p3, e3, r3⟩ := field_open hf hxl hx 3 rfl h3
  obtain ⟨d4, p4, e4, r4⟩ := field_open hf hxl hx 4 rfl h4
  obtain ⟨d5, p5, e5, r5⟩ := field_open hf hxl hx 5 rfl h5
  obtain ⟨d6, p6, e6, r6⟩ := field_open hf hxl hx 6 rfl h6
  obtain ⟨d7, p7, e7, r7⟩ := field_open hf hxl hx 7 rfl h7
  obtain ⟨d8, p8, e8, r8⟩ := field_open hf hxl hx 8 rfl h8
  refine ⟨⟨d0, d1, d2, d3, d4, d5, d6, d7, d8⟩, ⟨p0, p1, p2, p3, p4, p7⟩, ?_, ⟨r0, r1, r2, r3, r4, r5, r6, r7, r8⟩⟩
  have e : cs.drop 0 = _ := dr e0 1 rfl
  rw [dr e1 2 rfl, dr e2 3 rfl, dr e3 4 rfl, dr e4 5 rfl, dr e5 6 rfl, dr e6 7 rfl, dr e7 8 rfl, dr e8 9 rfl, dr_end (hl.trans hc)] at e
  exact e
theorem opens_Host {P : Program} {t : TypeId} {fs : Array Field} {t0 t1 t2 t3 : TypeId} (ht : P.underlying t = some (.struct fs)) (hc : P.cellsOf t = 4) (hf : fs.toList.map (fun f => (f.type, f.offset)) = [(t0, 0), (t1, 1), (t2, 2), (t3, 3)]) (h0 : Opens P t0 (List (List Int))) (h1 : Opens P t1 (List TMon)) (h2 : Opens P t2 (List TEntry)) (h3 : Opens P t3 (List TEntry)) : Opens P t THost := by
  refine ⟨hc, fun H enc w fuel cs x h => ?_⟩
  obtain ⟨xs, n, _, _, hl, hxl, hx⟩ := DataW.trod_struct ht h
  obtain ⟨d0, p0, e0, r0⟩ := field_open hf hxl hx 0 rfl h0
  obtain ⟨d1, p1, e1, r1⟩ := field_open hf hxl hx 1 rfl h1
  obtain ⟨d2, p2, e2, r2⟩ := field_open hf hxl hx 2 rfl h2
  obtain ⟨d3, p3, e3, r3⟩ := field_open hf hxl hx 3 rfl h3
  refine ⟨⟨d0, d1, d2, d3⟩, ⟨p0, p1, p2, p3⟩, ?_, ⟨r0, r1, r2, r3⟩⟩
  have e : cs.drop 0 = _ := dr e0 1 rfl
  rw [dr e1 2 rfl, dr e2 3 rfl, dr e3 4 rfl, dr_end (hl.trans hc)] at e
  exact e
end Go.Proofs.YtomgmpbipaldaaaGreat
