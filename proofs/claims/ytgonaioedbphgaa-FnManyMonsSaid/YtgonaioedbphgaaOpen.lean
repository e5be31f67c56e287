/- Arguments that read as data are typed data. No program is named here. -/
import Derived.Test.YtgonaioedbphgaaTypes
import Derived.OpenShut
import Derived.Deep.Slices
namespace Go.Proofs.Ytgonaioedbphgaa
open Go
def Opens (P : Program) (t : TypeId) (α : Type) [GT α] : Prop :=
  P.cellsOf t = GT.width α ∧ ∀ (H : Type) (enc : TypeId × Value → H) (w : World) (fuel : Nat) (cs : List Value) (x : DataW H × List MemPlace),
    DataW.trod enc P w 0 (fun _ => true) true fuel t cs = some x → ∃ (d : α) (p : GT.Ptr α), cs = GT.cells d p ∧ GT.rd KR (Lt w.heap.size) w d p
theorem opens_slice {P : Program} {t e : TypeId} {α : Type} [GT α] (ht : P.underlying t = some (.slice e)) (hc : P.cellsOf t = 1) (ho : Opens P e α) : Opens P t (List α) := by
  refine ⟨hc, fun H enc w fuel cs x h => ?_⟩
  rcases Go.Deep.open_slice ht h with ⟨rfl, _⟩ | ⟨a, len, cap, m, n, D, Pl, rfl, _, hl, hm, hmm, _, hx⟩
  · exact ⟨[], GT.pdflt, rfl, GT.own_rd (GT.own_dflt _ _ _)⟩
  simp only [if_true] at hmm
  subst hmm
  have : Inhabited α := ⟨GT.dflt⟩
  have : Inhabited (GT.Ptr α) := ⟨GT.pdflt⟩
  obtain ⟨f, hf⟩ := Go.Deep.choose_lt (α := α × GT.Ptr α) (n := m) (p := fun i y => w.cells? 0 (a.add (i * P.cellsOf e)) (P.cellsOf e) = some (GT.cells y.1 y.2) ∧ GT.rd KR (Lt w.heap.size) w y.1 y.2) (fun i hi => by
    obtain ⟨cs', h1, h2⟩ := hx i hi
    obtain ⟨d, p, rfl, h3⟩ := ho.2 H enc w n cs' _ h2
    exact ⟨(d, p), h1, h3⟩)
  have hlen : ((List.range len).map fun i => (f i).1).length = len := by simp
  have hel : ∀ i, i < len → el ((List.range len).map fun i => (f i).1) i = (f i).1 := fun i hi => by simp [el, hi]
  by_cases h0 : m = 0
  · obtain rfl : len = 0 := by omega
    subst h0
    exact ⟨[], (⟨true, 0, 0, 0, some a⟩, fun _ => GT.pdflt), rfl, Nat.zero_le _, Nat.zero_le _, fun h => absurd h (Nat.lt_irrefl _), fun i hi => absurd hi (Nat.not_lt_zero _), fun i hi => absurd hi (Nat.not_lt_zero _)⟩
  have hsp : ∃ b o, a = ⟨b, o, none⟩ := by
    obtain ⟨_, hl2, hc2⟩ := World.cells?_some (hf 0 (by omega)).1
    have h3 := hc2 0 (by rw [ho.1]; exact GT.wpos)
    have hg : ∃ v, (GT.cells (f 0).1 (f 0).2)[0]? = some v := ⟨_, List.getElem?_eq_getElem (by rw [GT.len]; exact GT.wpos)⟩
    obtain ⟨v, hv⟩ := hg
    rw [hv, Nat.zero_mul] at h3
    simp only [Addr.add, if_true] at h3
    obtain ⟨b, o, s⟩ := a
    cases s with
    | none => exact ⟨b, o, rfl⟩
    | some s => unfold World.cell? at h3; split at h3 <;> simp at h3
  obtain ⟨b, o, rfl⟩ := hsp
  have hcell : ∀ i, i < m → CellsAt w b (o + i * GT.width α) (GT.cells (f i).1 (f i).2) := fun i hi => by
    obtain ⟨_, hl2, hc2⟩ := World.cells?_some (hf i hi).1
    intro j v hj
    have hjl := (List.getElem?_eq_some_iff.1 hj).1
    have h3 := hc2 j (by omega)
    rw [hj, ho.1, Go.Deep.add_add] at h3
    have e : (Addr.mk b o none).add (i * GT.width α + j) = ⟨b, o + i * GT.width α + j, none⟩ := by
      unfold Addr.add
      split
      · rename_i h; simp
      · simp [Nat.add_assoc]
    rwa [e] at h3
  refine ⟨(List.range len).map fun i => (f i).1, (⟨false, b, o, m, none⟩, fun i => (f i).2), ?_, ?_, ?_, ?_, ?_, ?_⟩
  · show [Value.slice (some _) len m] = [slv (List.length _) _]
    rw [hlen]
    rfl
  · rw [hlen]; unfold maxLen at hm; unfold KR; omega
  · rw [hlen]; exact hl
  · intro h
    refine ⟨rfl, ?_⟩
    exact (hcell 0 (by omega)).lt (by rw [GT.len]; exact GT.wpos)
  · intro i hi
    rw [hlen] at hi
    rw [hel i hi]
    exact hcell i (by omega)
  · intro i hi
    rw [hlen] at hi
    rw [hel i hi]
    exact (hf i (by omega)).2
theorem dr {cs c : List Value} {o w : Nat} (h : (cs.drop o).take w = c) (o' : Nat) (e : o' = o + w) : cs.drop o = c ++ cs.drop o' := by
  subst h e
  rw [← List.drop_drop, List.take_append_drop]
theorem arg_list {H : Type} {enc : TypeId × Value → H} {P : Program} {w : World} {t e : TypeId} {α : Type} [GT α] (ho : Opens P t (List α)) (ht : P.underlying t = some (.slice e))
    {r : Reach} {b0 : Nat} {v : Value} (hv : Value.okWide P w r b0 t v) {d : DataW H} {ps : List MemPlace} (h : DataW.Trod enc P w 0 (fun _ => true) true t v d ps) :
    ∃ (d : List α) (p : LP α), v = slv d.length p.1 ∧ LRd KR (Lt w.heap.size) w d p := by
  obtain ⟨a, len, cap, rfl⟩ := Go.WideShapes.okWide_slice ht hv
  obtain ⟨fuel, hf⟩ := h
  obtain ⟨x, p, h1, h2⟩ := ho.2 H enc w fuel _ _ hf
  refine ⟨x, p, ?_, h2⟩
  have h3 : [Value.slice a len cap] = [slv x.length p.1] := h1
  exact (List.cons.inj h3).1
theorem trodAll_app {H : Type} {enc : TypeId × Value → H} {P : Program} {w : World} {base : Nat} {spare : Nat → Bool} {held : Bool} {ts' : List TypeId} {vs' : List Value} {ds' : List (DataW H)} {p' : List MemPlace} (h' : DataW.TrodAll enc P w base spare held ts' vs' ds' p') :
    ∀ {ts : List TypeId} {vs : List Value} {ds : List (DataW H)} {p : List MemPlace}, DataW.TrodAll enc P w base spare held ts vs ds p → DataW.TrodAll enc P w base spare held (ts ++ ts') (vs ++ vs') (ds ++ ds') (p ++ p')
  | [], _, _, _, h => by
    obtain ⟨rfl, rfl, rfl⟩ := Go.ChangeShapes.trodAll_nil h
    exact h'
  | _ :: _, _, _, _, h => by
    obtain ⟨v, vs1, d, ds1, a, b, rfl, rfl, rfl, h1, h2⟩ := Go.ChangeShapes.trodAll_cons h
    exact ⟨a, b ++ p', h1, trodAll_app h' h2, by simp⟩
theorem post_law {H : Type} {enc : TypeId × Value → H} {P : Program} {f : Func} {s : ChangeSpec} {apart fresh handsOn again : Bool} {W W' : World} {args : Array Value} {v : Value} {ds gs : List (DataW H)} {before pa pv : List MemPlace}
    (hW : DataW.Whole enc P f.params.toList s.vars apart W args.toList ds gs before)
    (hres : ∀ (b : Nat) (sp : Nat → Bool) (hd : Bool), DataW.TrodAll enc P W' b sp hd f.resultTypes.toList (v.resultList f.resultTypes.size) (s.fn H (ds ++ gs)).results [])
    (hargs : ∀ sp : Nat → Bool, (∀ p ∈ before, sp p.block = true) → DataW.TrodAll enc P W' 0 sp true f.params.toList args.toList (s.fn H (ds ++ gs)).args pa)
    (hvars : ∀ sp : Nat → Bool, (∀ p ∈ before, sp p.block = true) → DataW.TrodVars enc P W' sp s.vars (s.fn H (ds ++ gs)).vars pv)
    (hps : before = pa ++ pv) (hb : RowKit.Below W.heap.size W W')
    (hok : ∀ (j : Nat) (t : TypeId) (r : Value), f.resultTypes[j]? = some t → (v.resultList f.resultTypes.size)[j]? = some r → Value.okWide P W' .any 0 t r) :
    s.post enc P f apart fresh handsOn again W args v W' := by
  have hold : ∀ p ∈ before, (fun b => decide (b < W.heap.size)) p.block = true := fun p hp => by simpa using hW.lt p hp
  have hlt := hW.lt
  refine ⟨ds, gs, before, [], pa, pv, hW, hres _ _ _, hargs _ hold, hvars _ hold, World.keptBut_mono (fun p hp => ⟨hp, ?_⟩) (hb.frame (· ∈ before)), fun _ => ?_⟩
  · rw [hps, List.mem_append] at hp
    exact Or.inr hp
  · obtain ⟨_, _, _, _, _, hz, hn⟩ := hW
    refine ⟨hok, _, _, ([] ++ pa) ++ pv, ⟨[] ++ pa, pv, trodAll_app (hargs _ (fun _ _ => rfl)) (hres _ _ _), hvars _ (fun _ _ => rfl), rfl, ?_, ?_⟩, ?_⟩
    · intro b off hp
      have hp' : MemPlace.cell b off ∈ before := by rw [hps]; simpa using hp
      rw [hb.frozen (p := ⟨b, off, none⟩) (hlt _ hp')]
      exact hz b off hp'
    · intro ha
      have := hn ha
      rw [hps] at this
      simpa using this
    · intro p hp _
      rw [hps]
      simpa using hp
end Go.Proofs.Ytgonaioedbphgaa
