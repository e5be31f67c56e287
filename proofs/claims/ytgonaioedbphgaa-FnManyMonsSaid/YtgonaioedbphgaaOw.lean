/- An owned struct is its owned parts, apart from each other. No program is named here. -/
import Derived.Test.YtgonaioedbphgaaCore9
import Derived.Test.YtgonaioedbphgaaTypes
namespace Go.Proofs.Ytgonaioedbphgaa
open Go
def uniB : List Bl → Bl
  | [] => NoB
  | G :: l => Or G (uniB l)
theorem Disj.nob {X : Bl} : Disj NoB X := fun _ h _ => False.elim h
theorem Disj.or {A C X : Bl} (h : Disj A X) (k : Disj C X) : Disj (Or A C) X := fun b h1 h2 => h1.elim (fun y => h b y h2) (fun y => k b y h2)
theorem Disj.part {A F X : Bl} (h : Disj F X) (s : ∀ b, A b → F b) : Disj A X := fun b h1 h2 => h b (s b h1) h2
theorem uni_mem {l : List Bl} {G : Bl} (h : G ∈ l) (b : Nat) (hb : G b) : uniB l b := by
  induction l with
  | nil => cases h
  | cons A l ih =>
    rcases List.mem_cons.1 h with rfl | h
    · exact Or.inl hb
    · exact Or.inr (ih h)
theorem uni_all {l : List Bl} {X : Nat → Prop} (h : ∀ G, G ∈ l → ∀ b, G b → X b) (b : Nat) (hb : uniB l b) : X b := by
  induction l with
  | nil => exact False.elim hb
  | cons A l ih =>
    rcases hb with hb | hb
    · exact h A List.mem_cons_self b hb
    · exact ih (fun G hG => h G (List.mem_cons_of_mem _ hG)) hb
theorem sepd_mk {l : List Bl} (h : l.Pairwise Disj) : Sepd (uniB l) l := ⟨fun _ hG => uni_mem hG, h⟩
theorem pw {l : List Bl} (h : l.Pairwise Disj) {i j : Nat} {A C : Bl} (hij : i < j) (hi : l[i]? = some A) (hj : l[j]? = some C) : Disj A C := by
  obtain ⟨h1, rfl⟩ := List.getElem?_eq_some_iff.1 hi
  obtain ⟨h2, rfl⟩ := List.getElem?_eq_some_iff.1 hj
  exact List.pairwise_iff_getElem.1 h i j h1 h2 hij
section
variable {w0 : World} {M : Bl} {u : World} {N : Bl}
theorem ow_Kept {F0 F1 : Bl} {x : TKept} {p : PKept} (o0 : Ow w0 M u N F0 x.known p.known) (o1 : Ow w0 M u N F1 x.slots p.slots) (d0x1 : Disj F0 F1) : Ow w0 M u N (uniB [F0, F1]) x p := by
  refine ⟨⟨F0, F1, o0.own, o1.own, sepd_mk (List.Pairwise.cons (by intro G hG; simp only [List.mem_cons, List.not_mem_nil, or_false] at hG; rcases hG with rfl; exact d0x1) (List.Pairwise.cons (fun G hG => by cases hG) List.Pairwise.nil))⟩, ?_, ?_⟩
  · refine uni_all fun G hG => ?_
    simp only [List.mem_cons, List.not_mem_nil, or_false] at hG
    rcases hG with rfl | rfl
    · exact o0.sub
    · exact o1.sub
  · refine uni_all fun G hG => ?_
    simp only [List.mem_cons, List.not_mem_nil, or_false] at hG
    rcases hG with rfl | rfl
    · exact o0.young
    · exact o1.young
theorem sp_Kept {F : Bl} {x : TKept} {p : PKept} (o : Ow w0 M u N F x p) : ∃ F0 F1 : Bl, Ow w0 M u N F0 x.known p.known ∧ Ow w0 M u N F1 x.slots p.slots ∧ (∀ b, F0 b → F b) ∧ (∀ b, F1 b → F b) ∧ Disj F0 F1 := by
  obtain ⟨⟨F0, F1, g0, g1, s⟩, h1, h2⟩ := o
  have s0 : ∀ b, F0 b → F b := s.sub _ (by simp)
  have s1 : ∀ b, F1 b → F b := s.sub _ (by simp)
  exact ⟨F0, F1, ⟨g0, fun b hb => h1 b (s0 b hb), fun b hb => h2 b (s0 b hb)⟩, ⟨g1, fun b hb => h1 b (s1 b hb), fun b hb => h2 b (s1 b hb)⟩, s0, s1, pw s.dis (i := 0) (j := 1) (by decide) rfl rfl⟩
theorem ow_Guest {F0 F1 F2 F3 : Bl} {x : TGuest} {p : PGuest} (o0 : Ow w0 M u N F0 x.prog p.prog) (o1 : Ow w0 M u N F1 x.written p.written) (o2 : Ow w0 M u N F2 x.live p.live) (o3 : Ow w0 M u N F3 x.seen p.seen) (d0x1 : Disj F0 F1) (d0x2 : Disj F0 F2) (d0x3 : Disj F0 F3) (d1x2 : Disj F1 F2) (d1x3 : Disj F1 F3) (d2x3 : Disj F2 F3) (f0 : In64 x.acc) (f1 : In64 x.pc) (f2 : RCtl x.ctl) (f3 : In64 x.pend) (f4 : RExit x.exit) : Ow w0 M u N (uniB [F0, F1, F2, F3]) x p := by
  refine ⟨⟨F0, F1, F2, F3, o0.own, o1.own, o2.own, o3.own, sepd_mk (List.Pairwise.cons (by intro G hG; simp only [List.mem_cons, List.not_mem_nil, or_false] at hG; rcases hG with rfl | rfl | rfl; exact d0x1; exact d0x2; exact d0x3) (List.Pairwise.cons (by intro G hG; simp only [List.mem_cons, List.not_mem_nil, or_false] at hG; rcases hG with rfl | rfl; exact d1x2; exact d1x3) (List.Pairwise.cons (by intro G hG; simp only [List.mem_cons, List.not_mem_nil, or_false] at hG; rcases hG with rfl; exact d2x3) (List.Pairwise.cons (fun G hG => by cases hG) List.Pairwise.nil)))), f0, f1, f2, f3, f4⟩, ?_, ?_⟩
  · refine uni_all fun G hG => ?_
    simp only [List.mem_cons, List.not_mem_nil, or_false] at hG
    rcases hG with rfl | rfl | rfl | rfl
    · exact o0.sub
    · exact o1.sub
    · exact o2.sub
    · exact o3.sub
  · refine uni_all fun G hG => ?_
    simp only [List.mem_cons, List.not_mem_nil, or_false] at hG
    rcases hG with rfl | rfl | rfl | rfl
    · exact o0.young
    · exact o1.young
    · exact o2.young
    · exact o3.young
theorem sp_Guest {F : Bl} {x : TGuest} {p : PGuest} (o : Ow w0 M u N F x p) : ∃ F0 F1 F2 F3 : Bl, Ow w0 M u N F0 x.prog p.prog ∧ Ow w0 M u N F1 x.written p.written ∧ Ow w0 M u N F2 x.live p.live ∧ Ow w0 M u N F3 x.seen p.seen ∧ (∀ b, F0 b → F b) ∧ (∀ b, F1 b → F b) ∧ (∀ b, F2 b → F b) ∧ (∀ b, F3 b → F b) ∧ Disj F0 F1 ∧ Disj F0 F2 ∧ Disj F0 F3 ∧ Disj F1 F2 ∧ Disj F1 F3 ∧ Disj F2 F3 := by
  obtain ⟨⟨F0, F1, F2, F3, g0, g1, g2, g3, s, _, _, _, _, _⟩, h1, h2⟩ := o
  have s0 : ∀ b, F0 b → F b := s.sub _ (by simp)
  have s1 : ∀ b, F1 b → F b := s.sub _ (by simp)
  have s2 : ∀ b, F2 b → F b := s.sub _ (by simp)
  have s3 : ∀ b, F3 b → F b := s.sub _ (by simp)
  exact ⟨F0, F1, F2, F3, ⟨g0, fun b hb => h1 b (s0 b hb), fun b hb => h2 b (s0 b hb)⟩, ⟨g1, fun b hb => h1 b (s1 b hb), fun b hb => h2 b (s1 b hb)⟩, ⟨g2, fun b hb => h1 b (s2 b hb), fun b hb => h2 b (s2 b hb)⟩, ⟨g3, fun b hb => h1 b (s3 b hb), fun b hb => h2 b (s3 b hb)⟩, s0, s1, s2, s3, pw s.dis (i := 0) (j := 1) (by decide) rfl rfl, pw s.dis (i := 0) (j := 2) (by decide) rfl rfl, pw s.dis (i := 0) (j := 3) (by decide) rfl rfl, pw s.dis (i := 1) (j := 2) (by decide) rfl rfl, pw s.dis (i := 1) (j := 3) (by decide) rfl rfl, pw s.dis (i := 2) (j := 3) (by decide) rfl rfl⟩
theorem ow_Mon {F0 F1 F2 F3 F4 F5 : Bl} {x : TMon} {p : PMon} (o0 : Ow w0 M u N F0 x.outer p.outer) (o1 : Ow w0 M u N F1 x.out p.out) (o2 : Ow w0 M u N F2 x.dirty p.dirty) (o3 : Ow w0 M u N F3 x.guests p.guests) (o4 : Ow w0 M u N F4 x.outs p.outs) (o5 : Ow w0 M u N F5 x.tables p.tables) (d0x1 : Disj F0 F1) (d0x2 : Disj F0 F2) (d0x3 : Disj F0 F3) (d0x4 : Disj F0 F4) (d0x5 : Disj F0 F5) (d1x2 : Disj F1 F2) (d1x3 : Disj F1 F3) (d1x4 : Disj F1 F4) (d1x5 : Disj F1 F5) (d2x3 : Disj F2 F3) (d2x4 : Disj F2 F4) (d2x5 : Disj F2 F5) (d3x4 : Disj F3 F4) (d3x5 : Disj F3 F5) (d4x5 : Disj F4 F5) (f0 : In64 x.pend) (f1 : In64 x.traps) (f2 : In64 x.owned) : Ow w0 M u N (uniB [F0, F1, F2, F3, F4, F5]) x p := by
  refine ⟨⟨F0, F1, F2, F3, F4, F5, o0.own, o1.own, o2.own, o3.own, o4.own, o5.own, sepd_mk (List.Pairwise.cons (by intro G hG; simp only [List.mem_cons, List.not_mem_nil, or_false] at hG; rcases hG with rfl | rfl | rfl | rfl | rfl; exact d0x1; exact d0x2; exact d0x3; exact d0x4; exact d0x5) (List.Pairwise.cons (by intro G hG; simp only [List.mem_cons, List.not_mem_nil, or_false] at hG; rcases hG with rfl | rfl | rfl | rfl; exact d1x2; exact d1x3; exact d1x4; exact d1x5) (List.Pairwise.cons (by intro G hG; simp only [List.mem_cons, List.not_mem_nil, or_false] at hG; rcases hG with rfl | rfl | rfl; exact d2x3; exact d2x4; exact d2x5) (List.Pairwise.cons (by intro G hG; simp only [List.mem_cons, List.not_mem_nil, or_false] at hG; rcases hG with rfl | rfl; exact d3x4; exact d3x5) (List.Pairwise.cons (by intro G hG; simp only [List.mem_cons, List.not_mem_nil, or_false] at hG; rcases hG with rfl; exact d4x5) (List.Pairwise.cons (fun G hG => by cases hG) List.Pairwise.nil)))))), f0, f1, f2⟩, ?_, ?_⟩
  · refine uni_all fun G hG => ?_
    simp only [List.mem_cons, List.not_mem_nil, or_false] at hG
    rcases hG with rfl | rfl | rfl | rfl | rfl | rfl
    · exact o0.sub
    · exact o1.sub
    · exact o2.sub
    · exact o3.sub
    · exact o4.sub
    · exact o5.sub
  · refine uni_all fun G hG => ?_
    simp only [List.mem_cons, List.not_mem_nil, or_false] at hG
    rcases hG with rfl | rfl | rfl | rfl | rfl | rfl
    · exact o0.young
    · exact o1.young
    · exact o2.young
    · exact o3.young
    · exact o4.young
    · exact o5.young
theorem sp_Mon {F : Bl} {x : TMon} {p : PMon} (o : Ow w0 M u N F x p) : ∃ F0 F1 F2 F3 F4 F5 : Bl, Ow w0 M u N F0 x.outer p.outer ∧ Ow w0 M u N F1 x.out p.out ∧ Ow w0 M u N F2 x.dirty p.dirty ∧ Ow w0 M u N F3 x.guests p.guests ∧ Ow w0 M u N F4 x.outs p.outs ∧ Ow w0 M u N F5 x.tables p.tables ∧ (∀ b, F0 b → F b) ∧ (∀ b, F1 b → F b) ∧ (∀ b, F2 b → F b) ∧ (∀ b, F3 b → F b) ∧ (∀ b, F4 b → F b) ∧ (∀ b, F5 b → F b) ∧ Disj F0 F1 ∧ Disj F0 F2 ∧ Disj F0 F3 ∧ Disj F0 F4 ∧ Disj F0 F5 ∧ Disj F1 F2 ∧ Disj F1 F3 ∧ Disj F1 F4 ∧ Disj F1 F5 ∧ Disj F2 F3 ∧ Disj F2 F4 ∧ Disj F2 F5 ∧ Disj F3 F4 ∧ Disj F3 F5 ∧ Disj F4 F5 := by
  obtain ⟨⟨F0, F1, F2, F3, F4, F5, g0, g1, g2, g3, g4, g5, s, _, _, _⟩, h1, h2⟩ := o
  have s0 : ∀ b, F0 b → F b := s.sub _ (by simp)
  have s1 : ∀ b, F1 b → F b := s.sub _ (by simp)
  have s2 : ∀ b, F2 b → F b := s.sub _ (by simp)
  have s3 : ∀ b, F3 b → F b := s.sub _ (by simp)
  have s4 : ∀ b, F4 b → F b := s.sub _ (by simp)
  have s5 : ∀ b, F5 b → F b := s.sub _ (by simp)
  exact ⟨F0, F1, F2, F3, F4, F5, ⟨g0, fun b hb => h1 b (s0 b hb), fun b hb => h2 b (s0 b hb)⟩, ⟨g1, fun b hb => h1 b (s1 b hb), fun b hb => h2 b (s1 b hb)⟩, ⟨g2, fun b hb => h1 b (s2 b hb), fun b hb => h2 b (s2 b hb)⟩, ⟨g3, fun b hb => h1 b (s3 b hb), fun b hb => h2 b (s3 b hb)⟩, ⟨g4, fun b hb => h1 b (s4 b hb), fun b hb => h2 b (s4 b hb)⟩, ⟨g5, fun b hb => h1 b (s5 b hb), fun b hb => h2 b (s5 b hb)⟩, s0, s1, s2, s3, s4, s5, pw s.dis (i := 0) (j := 1) (by decide) rfl rfl, pw s.dis (i := 0) (j := 2) (by decide) rfl rfl, pw s.dis (i := 0) (j := 3) (by decide) rfl rfl, pw s.dis (i := 0) (j := 4) (by decide) rfl rfl, pw s.dis (i := 0) (j := 5) (by decide) rfl rfl, pw s.dis (i := 1) (j := 2) (by decide) rfl rfl, pw s.dis (i := 1) (j := 3) (by decide) rfl rfl, pw s.dis (i := 1) (j := 4) (by decide) rfl rfl, pw s.dis (i := 1) (j := 5) (by decide) rfl rfl, pw s.dis (i := 2) (j := 3) (by decide) rfl rfl, pw s.dis (i := 2) (j := 4) (by decide) rfl rfl, pw s.dis (i := 2) (j := 5) (by decide) rfl rfl, pw s.dis (i := 3) (j := 4) (by decide) rfl rfl, pw s.dis (i := 3) (j := 5) (by decide) rfl rfl, pw s.dis (i := 4) (j := 5) (by decide) rfl rfl⟩
theorem ow_Host {F0 F1 F2 F3 : Bl} {x : THost} {p : PHost} (o0 : Ow w0 M u N F0 x.mem p.mem) (o1 : Ow w0 M u N F1 x.mons p.mons) (o2 : Ow w0 M u N F2 x.buf p.buf) (o3 : Ow w0 M u N F3 x.iobuf p.iobuf) (d0x1 : Disj F0 F1) (d0x2 : Disj F0 F2) (d0x3 : Disj F0 F3) (d1x2 : Disj F1 F2) (d1x3 : Disj F1 F3) (d2x3 : Disj F2 F3) : Ow w0 M u N (uniB [F0, F1, F2, F3]) x p := by
  refine ⟨⟨F0, F1, F2, F3, o0.own, o1.own, o2.own, o3.own, sepd_mk (List.Pairwise.cons (by intro G hG; simp only [List.mem_cons, List.not_mem_nil, or_false] at hG; rcases hG with rfl | rfl | rfl; exact d0x1; exact d0x2; exact d0x3) (List.Pairwise.cons (by intro G hG; simp only [List.mem_cons, List.not_mem_nil, or_false] at hG; rcases hG with rfl | rfl; exact d1x2; exact d1x3) (List.Pairwise.cons (by intro G hG; simp only [List.mem_cons, List.not_mem_nil, or_false] at hG; rcases hG with rfl; exact d2x3) (List.Pairwise.cons (fun G hG => by cases hG) List.Pairwise.nil))))⟩, ?_, ?_⟩
  · refine uni_all fun G hG => ?_
    simp only [List.mem_cons, List.not_mem_nil, or_false] at hG
    rcases hG with rfl | rfl | rfl | rfl
    · exact o0.sub
    · exact o1.sub
    · exact o2.sub
    · exact o3.sub
  · refine uni_all fun G hG => ?_
    simp only [List.mem_cons, List.not_mem_nil, or_false] at hG
    rcases hG with rfl | rfl | rfl | rfl
    · exact o0.young
    · exact o1.young
    · exact o2.young
    · exact o3.young
theorem sp_Host {F : Bl} {x : THost} {p : PHost} (o : Ow w0 M u N F x p) : ∃ F0 F1 F2 F3 : Bl, Ow w0 M u N F0 x.mem p.mem ∧ Ow w0 M u N F1 x.mons p.mons ∧ Ow w0 M u N F2 x.buf p.buf ∧ Ow w0 M u N F3 x.iobuf p.iobuf ∧ (∀ b, F0 b → F b) ∧ (∀ b, F1 b → F b) ∧ (∀ b, F2 b → F b) ∧ (∀ b, F3 b → F b) ∧ Disj F0 F1 ∧ Disj F0 F2 ∧ Disj F0 F3 ∧ Disj F1 F2 ∧ Disj F1 F3 ∧ Disj F2 F3 := by
  obtain ⟨⟨F0, F1, F2, F3, g0, g1, g2, g3, s⟩, h1, h2⟩ := o
  have s0 : ∀ b, F0 b → F b := s.sub _ (by simp)
  have s1 : ∀ b, F1 b → F b := s.sub _ (by simp)
  have s2 : ∀ b, F2 b → F b := s.sub _ (by simp)
  have s3 : ∀ b, F3 b → F b := s.sub _ (by simp)
  exact ⟨F0, F1, F2, F3, ⟨g0, fun b hb => h1 b (s0 b hb), fun b hb => h2 b (s0 b hb)⟩, ⟨g1, fun b hb => h1 b (s1 b hb), fun b hb => h2 b (s1 b hb)⟩, ⟨g2, fun b hb => h1 b (s2 b hb), fun b hb => h2 b (s2 b hb)⟩, ⟨g3, fun b hb => h1 b (s3 b hb), fun b hb => h2 b (s3 b hb)⟩, s0, s1, s2, s3, pw s.dis (i := 0) (j := 1) (by decide) rfl rfl, pw s.dis (i := 0) (j := 2) (by decide) rfl rfl, pw s.dis (i := 0) (j := 3) (by decide) rfl rfl, pw s.dis (i := 1) (j := 2) (by decide) rfl rfl, pw s.dis (i := 1) (j := 3) (by decide) rfl rfl, pw s.dis (i := 2) (j := 3) (by decide) rfl rfl⟩
end
end Go.Proofs.Ytgonaioedbphgaa
