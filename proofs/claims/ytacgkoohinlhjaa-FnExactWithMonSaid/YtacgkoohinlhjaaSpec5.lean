/- What the functions compute, as plain functions on data (fifth part): sizes of results. No program is named here. -/
import Derived.Test.YtacgkoohinlhjaaSpec4
import Derived.Test.YtacgkoohinlhjaaMk
namespace Go.Proofs.Ytacgkoohinlhjaa
open Go

theorem sz_pageAt {m : List (List Int)} {p : Int} : SZ.sz (f_pageAt m p) ≤ 4 + SZ.sz m := by
  unfold f_pageAt
  split
  · rename_i h
    have h1 := sz_el_le (xs := m) (k := p.toNat) (by omega)
    have h2 := sz_list m
    omega
  · have : SZ.sz ([0, 0, 0, 0] : List Int) = 4 := by rw [szl_Int]; rfl
    omega
theorem sz_pageOf {h : THost} {m p : Int} : SZ.sz (f_pageOf h m p) ≤ 4 + SZ.sz h := by
  unfold f_pageOf
  split
  · rename_i hm
    split
    · have h1 := sz_pageAt (m := h.mem) (p := (f_slotAt (el h.mons m.toNat).outer p).page)
      have h2 := sz_Host h
      omega
    · have h1 := sz_pageAt (m := (el h.mons m.toNat).out) (p := p)
      have h2 := sz_Mon (el h.mons m.toNat)
      have h3 := sz_el_host (h := h) (k := m.toNat) (by omega)
      omega
  · have : SZ.sz ([0, 0, 0, 0] : List Int) = 4 := by rw [szl_Int]; rfl
    omega
theorem szsum_map_bd {α β : Type} [GT β] [SZ β] {f : α → β} {c : Nat} (l : List α) (h : ∀ x, SZ.sz (f x) ≤ c) : szsum (l.map f) ≤ l.length * c := by
  have := szsum_bd (m := c) (l.map f) fun y hy => by
    obtain ⟨x, _, rfl⟩ := List.mem_map.1 hy
    exact h x
  rw [List.length_map] at this
  exact this
theorem sz_seenAs (h : THost) (m : Int) : SZ.sz (f_seenAs h m) ≤ 40 + 10 * SZ.sz h := by
  unfold f_seenAs
  split
  · rename_i hm
    have h1 := sz_Bare (⟨(List.range 8).map (fun (i : Nat) => f_pageOf h m (i : Int)), (el h.mons m.toNat).guests, (el h.mons m.toNat).outs, (el h.mons m.toNat).pend⟩ : TBare)
    simp only at h1
    have h2 := sz_Mon (el h.mons m.toNat)
    have h3 := sz_el_host (h := h) (k := m.toNat) (by omega)
    have h4 := sz_list ((List.range 8).map (fun (i : Nat) => f_pageOf h m (i : Int)))
    have h5 := szsum_map_bd (f := fun (i : Nat) => f_pageOf h m (i : Int)) (c := 4 + SZ.sz h) (List.range 8) (fun i => sz_pageOf)
    simp only [List.length_map, List.length_range] at h4 h5
    omega
  · have : SZ.sz (⟨[], [], [], 0⟩ : TBare) = 0 := rfl
    omega
theorem sz_allSeenAs {h : THost} (hs : SZ.sz h ≤ 1048576) : SZ.sz (f_allSeenAs h) ≤ 20000000000000 := by
  have h1 := sz_list (f_allSeenAs h)
  have h2 := allSeen_len h
  have h3 : szsum (f_allSeenAs h) ≤ (List.range h.mons.length).length * 10485800 := szsum_map_bd (f := fun (i : Nat) => f_seenAs h (i : Int)) (List.range h.mons.length) fun i => by
    have := sz_seenAs h (i : Int)
    omega
  have h4 := sz_Host h
  have h5 := sz_list h.mons
  rw [List.length_range] at h3
  have h6 : h.mons.length * 10485800 ≤ 1048576 * 10485800 := Nat.mul_le_mul_right _ (by omega)
  omega
end Go.Proofs.Ytacgkoohinlhjaa
