/- An interrupt taken off a monitor, in plain data. No program is named here. -/
import Derived.Test.YtkbcponpcghjpaaGreatSpec6
import Derived.Test.YtkbcponpcghjpaaGreatTop
namespace Go.Proofs.YtkbcponpcghjpaaGreat
open Go
def f_ackPair (b : TBare) : TBare × Bool := ((f_bareAck b).1, (f_bareAck b).2.2)
def f_ackN (h : THost) (m n : Int) : Int := if f_hostOk h = true ∧ 0 ≤ m ∧ m < h.mons.length then (f_bareAck (f_seenAs h m)).2.1 else n
def f_hostAck (h : THost) (m : Int) : THost × Int × Bool := ((f_reflected h m (f_ackPair (f_seenAs h m))).1, f_ackN h m (-1), (f_reflected h m (f_ackPair (f_seenAs h m))).2)
theorem ack_eq (b b' : TBare) (h1 : f_bareOk b = f_bareOk b') (h4 : b.pend = b'.pend) : (f_bareAck b).2 = (f_bareAck b').2 ∧ (f_bareAck b).1.pend = (f_bareAck b').1.pend := by
  unfold f_bareAck
  rw [h1, h4]
  split
  · exact ⟨rfl, rfl⟩
  · exact ⟨rfl, h4⟩
theorem ack_guests (b : TBare) : (f_bareAck b).1.guests = b.guests := by
  unfold f_bareAck
  split <;> rfl
theorem loc_ack : Loc f_ackPair where
  eq b b' h1 h2 _ h4 := by
    obtain ⟨e1, e2⟩ := ack_eq b b' h1 h4
    exact ⟨congrArg (·.2) e1, by show (f_bareAck b).1.guests = (f_bareAck b').1.guests; rw [ack_guests, ack_guests, h2], e2⟩
  no b h := by
    refine ⟨ack_guests b, ?_⟩
    have h' : (f_bareAck b).2.2 = false := h
    show (f_bareAck b).1.pend = b.pend
    unfold f_bareAck at h' ⊢
    split at h'
    · cases h'
    · rename_i hn; rw [if_neg hn]
theorem hostAck_out {h : THost} {m : Int} (e : f_l25Mon h m = false) : f_hostAck h m = (h, -1, false) := by
  have hn : ¬ (f_hostOk h = true ∧ 0 ≤ m ∧ m < h.mons.length) := fun h1 => by rw [l25Mon_mk h1] at e; cases e
  unfold f_hostAck f_reflected f_ackN
  rw [if_neg (fun h1 => hn h1.1), if_neg hn]
theorem hostAck_in {h : THost} {m : Int} (e : f_l25Mon h m = true) : f_hostAck h m = (f_back h m (f_bareAck (f_view (el h.mons m.toNat))).1, (f_bareAck (f_view (el h.mons m.toNat))).2.1, (f_bareAck (f_view (el h.mons m.toNat))).2.2) := by
  have e' := l25Mon_t e
  have h2 := reflect_spec loc_ack e'
  have k1 := seenAs_bareOk e'.1 e'.2
  have k2 := view_bareOk (hostOk_mon e'.1 (k := m.toNat) (by omega))
  have k3 := ack_eq (f_seenAs h m) (f_view (el h.mons m.toNat)) (k1.trans k2.symm) (by unfold f_seenAs; rw [if_pos e'.2]; rfl)
  unfold f_hostAck f_ackN
  rw [if_pos e', h2, k3.1]
  rfl
theorem sz_hostAck (h : THost) (m : Int) : SZ.sz (f_hostAck h m).1 ≤ 4 * SZ.sz h := by
  have h1 := sz_reflected h m (f_ackPair (f_seenAs h m))
  have h3 := sz_seenGuests h m
  have h2 : (f_ackPair (f_seenAs h m)).1.guests = (f_seenAs h m).guests := ack_guests _
  rw [h2] at h1
  unfold f_hostAck
  simp only
  omega
end Go.Proofs.YtkbcponpcghjpaaGreat
