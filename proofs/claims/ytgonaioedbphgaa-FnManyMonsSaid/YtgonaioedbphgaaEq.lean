/- Equality of flat structs. No program is named here. -/
import Derived.Test.YtgonaioedbphgaaTypes
import Derived.Laws.StructEq
namespace Go.Proofs.Ytgonaioedbphgaa
open Go
def flatFields (P : Program) : Nat → List Field → Option (List Bool)
  | _, [] => some []
  | i, f :: fs =>
    bif (f.name == "_") || !Nat.beq f.offset i then none else
    match P.underlying f.type with
    | some (.int .i64) => (flatFields P (i + 1) fs).map fun l => true :: l
    | some .bool => (flatFields P (i + 1) fs).map fun l => false :: l
    | _ => none
def flatK (P : Program) (t : TypeId) : Option (List Bool) :=
  match P.underlying t with
  | some (.struct fs) => bif P.stoodInHeld t then none else flatFields P 0 fs.toList
  | _ => none
def okL : List Bool → List Value → Prop
  | [], _ => True
  | true :: ks, .int .i64 _ :: xs => okL ks xs
  | false :: ks, .bool _ :: xs => okL ks xs
  | _, _ => False
def eqL : List Bool → List Value → List Value → Bool
  | [], _, _ => true
  | true :: ks, .int .i64 a :: xs, .int .i64 b :: ys => (a == b) && eqL ks xs ys
  | false :: ks, .bool a :: xs, .bool b :: ys => (a == b) && eqL ks xs ys
  | _, _, _ => false
theorem part_at {P : Program} {t : TypeId} {cs : Array Value} {i : Nat} {v : Value} (ht : tagg P t = some false) (h : cs[i]? = some v) (w : World) : (part t cs i).run P w = .ok v w := by
  simp [part, run_agg_false ht, h]
theorem eqFields_flat {P : Program} (xs ys : Array Value) (w : World) : ∀ (fs : List Field) (i : Nat) (ks : List Bool), flatFields P i fs = some ks → okL ks (xs.toList.drop i) → okL ks (ys.toList.drop i) →
    (Op.eqFields 9999 xs ys fs).run P w = .ok (eqL ks (xs.toList.drop i) (ys.toList.drop i)) w
  | [], i, ks, h, _, _ => by
    simp only [flatFields, Option.some.injEq] at h
    subst h; rfl
  | f :: fs, i, ks, h, hx, hy => by
    simp only [flatFields] at h
    cases hb : ((f.name == "_") || !Nat.beq f.offset i) with
    | true => rw [hb] at h; cases h
    | false =>
      rw [hb] at h
      simp only [Bool.or_eq_false_iff, Bool.not_eq_false'] at hb
      have hn : f.name ≠ "_" := fun e => by rw [e] at hb; simp at hb
      have ho : f.offset = i := Nat.eq_of_beq_eq_true hb.2
      simp only [cond_false] at h
      have tail : ∀ (zs : Array Value) (v : Value) (r : List Value), zs.toList.drop i = v :: r → zs[i]? = some v ∧ zs.toList.drop (i + 1) = r := fun zs v r e => by
        have h1 : (zs.toList.drop i)[0]? = some v := by rw [e]; rfl
        have h2 : zs.toList.drop (i + 1) = (zs.toList.drop i).drop 1 := by rw [List.drop_drop]
        exact ⟨by simpa using h1, by rw [h2, e]; rfl⟩
      split at h
      · rename_i hu
        cases hr : flatFields P (i + 1) fs with
        | none => rw [hr] at h; cases h
        | some ks' =>
          rw [hr] at h
          simp only [Option.map_some, Option.some.injEq] at h
          subst h
          have hag : tagg P f.type = some false := by unfold tagg; rw [hu]
          match hxe : xs.toList.drop i, hx with
          | .int .i64 a :: xr, hx =>
            match hye : ys.toList.drop i, hy with
            | .int .i64 b :: yr, hy =>
              obtain ⟨hx1, hx2⟩ := tail xs _ _ hxe
              obtain ⟨hy1, hy2⟩ := tail ys _ _ hye
              have ih := eqFields_flat xs ys w fs (i + 1) ks' hr (by rw [hx2]; exact hx) (by rw [hy2]; exact hy)
              unfold Op.eqFields
              rw [if_pos hn, ho]
              simp only [Sem.run_bind, part_at hag hx1, part_at hag hy1, Result.andThen_ok, run_equalIn_int w 9998 f.type .i64 .i64 a b hu]
              rw [hx2, hy2] at ih
              cases hab : (a == b) with
              | false => simp [eqL, hab]
              | true => simp only [eqL, hab, Bool.true_and, Bool.not_true, Bool.false_eq_true, if_false]; exact ih
      · rename_i hu
        cases hr : flatFields P (i + 1) fs with
        | none => rw [hr] at h; cases h
        | some ks' =>
          rw [hr] at h
          simp only [Option.map_some, Option.some.injEq] at h
          subst h
          have hag : tagg P f.type = some false := by unfold tagg; rw [hu]
          match hxe : xs.toList.drop i, hx with
          | .bool a :: xr, hx =>
            match hye : ys.toList.drop i, hy with
            | .bool b :: yr, hy =>
              obtain ⟨hx1, hx2⟩ := tail xs _ _ hxe
              obtain ⟨hy1, hy2⟩ := tail ys _ _ hye
              have ih := eqFields_flat xs ys w fs (i + 1) ks' hr (by rw [hx2]; exact hx) (by rw [hy2]; exact hy)
              unfold Op.eqFields
              rw [if_pos hn, ho]
              simp only [Sem.run_bind, part_at hag hx1, part_at hag hy1, Result.andThen_ok, run_equalIn_bool' w 9998 f.type a b hu]
              rw [hx2, hy2] at ih
              cases hab : (a == b) with
              | false => simp [eqL, hab]
              | true => simp only [eqL, hab, Bool.true_and, Bool.not_true, Bool.false_eq_true, if_false]; exact ih
      · cases h
theorem eq_flat {P : Program} {t : TypeId} {ks : List Bool} (h : flatK P t = some ks) {xs ys : List Value} (hx : okL ks xs) (hy : okL ks ys) (w : World) : (Op.equal t (.agg xs.toArray) (.agg ys.toArray)).run P w = .ok (eqL ks xs ys) w := by
  unfold flatK at h
  split at h
  · rename_i fs hu
    cases hs : P.stoodInHeld t with
    | true => rw [hs] at h; cases h
    | false =>
      rw [hs] at h
      have hf : P.fieldsOf t = fs := by unfold Program.fieldsOf; rw [hu]
      have := run_equalIn_struct (P := P) w 9999 t xs.toArray ys.toArray (by rw [hf]; exact hu) hs
      rw [hf] at this
      show (Op.equalIn 10000 t _ _).run P w = _
      refine this.trans ?_
      have := eqFields_flat (P := P) xs.toArray ys.toArray w fs.toList 0 ks h (by simpa using hx) (by simpa using hy)
      simpa using this
  · cases h
section
variable {P : Program} {u : World} {N : Bl}
theorem eqs_Slot (x y : TSlot) : eqL [true, true] (GT.cells x ()) (GT.cells y ()) = decide (x = y) := by
  rw [Bool.eq_iff_iff, decide_eq_true_iff, TSlot.ext_iff]
  simp [eqL, GT.cells, Bool.and_eq_true]
theorem Eq_eq_Slot {t : TypeId} (x y : TSlot) (h : flatK P t = some [true, true]) : Quiet1 P u N (.sem (do pure (.bool (← Op.equal t (GT.val x ()) (GT.val y ()))))) (B (decide (x = y))) := fun w _ => by
  show (do pure (.bool (← Op.equal t (GT.val x ()) (GT.val y ()))) : Sem Value).run P w = _
  have e := eq_flat h (show okL [true, true] (GT.cells x ()) from trivial) (show okL [true, true] (GT.cells y ()) from trivial) w
  rw [eqs_Slot] at e
  rw [Sem.run_bind]
  show ((Op.equal t (.agg (GT.cells x ()).toArray) (.agg (GT.cells y ()).toArray)).run P w).andThen _ = _
  rw [e]; rfl
end
end Go.Proofs.Ytgonaioedbphgaa
