/- The program's structs as data. No program is named here. -/
import Derived.Test.YtgonaioedbphgaaCore6
namespace Go.Proofs.Ytgonaioedbphgaa
open Go
structure Sepd (F : Bl) (l : List Bl) : Prop where
  sub : ∀ G, G ∈ l → ∀ b, G b → F b
  dis : l.Pairwise Disj
theorem Sepd.mono {F F' : Bl} {l : List Bl} (h : Sepd F l) (hf : ∀ b, F b → F' b) : Sepd F' l := ⟨fun G hG b hb => hf b (h.sub G hG b hb), h.dis⟩
theorem Sepd.lt {F : Bl} {l : List Bl} (h : Sepd F l) (n : Nat) : Sepd (fun b => F b ∧ b < n) (l.map fun G b => G b ∧ b < n) :=
  ⟨fun G hG b hb => by
      obtain ⟨G', h1, rfl⟩ := List.mem_map.1 hG
      exact ⟨h.sub G' h1 b hb.1, hb.2⟩,
    List.pairwise_map.2 (h.dis.imp fun hd b x y => hd b x.1 y.1)⟩
structure TSlot where
  page : Int
  rights : Int
  deriving DecidableEq
theorem TSlot.ext_iff {a b : TSlot} : a = b ↔ a.page = b.page ∧ a.rights = b.rights := by
  cases a; cases b; simp
structure RSlot (d : TSlot) : Prop where
  page : In64 d.page
  rights : In64 d.rights
instance : GT TSlot where
  Ptr := Unit
  dflt := ⟨0, 0⟩
  pdflt := ()
  width := 2
  agg := true
  cells x _ := [I x.page, I x.rights]
  rd _ _ _ x _ := RSlot x
  own _ _ _ x _ := RSlot x
  wpos := by decide
  len _ _ := rfl
  one h := by cases h
  plain _ _ v h := by simp only [List.mem_cons, List.not_mem_nil, or_false] at h; rcases h with rfl | rfl <;> rfl
  rd_mono h _ _ := h
  rd_agree h _ := h
  rd_lt h := h
  own_mono h _ _ := h
  own_agree h _ := h
  own_lt h := h
  own_rd h := h
  own_dflt _ _ _ := ⟨⟨by decide, by decide⟩, ⟨by decide, by decide⟩⟩
structure TKept where
  known : List Bool
  slots : List TSlot
  deriving DecidableEq
theorem TKept.ext_iff {a b : TKept} : a = b ↔ a.known = b.known ∧ a.slots = b.slots := by
  cases a; cases b; simp
structure PKept where
  known : LP Bool
  slots : LP TSlot
structure RKept (K : Nat) (F : Bl) (w : World) (d : TKept) (p : PKept) : Prop where
  known : GT.rd K F w d.known p.known
  slots : GT.rd K F w d.slots p.slots
def OKept (K : Nat) (F : Bl) (w : World) (x : TKept) (p : PKept) : Prop :=
  ∃ G0 G1 : Bl, GT.own K G0 w x.known p.known ∧ GT.own K G1 w x.slots p.slots ∧ Sepd F [G0, G1]
instance : GT TKept where
  Ptr := PKept
  dflt := ⟨[], []⟩
  pdflt := ⟨GT.pdflt (α := List Bool), GT.pdflt (α := List TSlot)⟩
  width := 2
  agg := true
  cells x p := [slv x.known.length p.known.1, slv x.slots.length p.slots.1]
  rd := RKept
  own := OKept
  wpos := by decide
  len _ _ := rfl
  one h := by cases h
  plain _ _ v h := by simp only [List.mem_cons, List.not_mem_nil, or_false] at h; rcases h with rfl | rfl <;> rfl
  rd_mono h hk hf := ⟨GT.rd_mono h.known hk hf, GT.rd_mono h.slots hk hf⟩
  rd_agree h hw := ⟨GT.rd_agree h.known hw, GT.rd_agree h.slots hw⟩
  rd_lt h := ⟨GT.rd_lt h.known, GT.rd_lt h.slots⟩
  own_mono := by
    rintro K K' F G w x p ⟨G0, G1, h0, h1, s⟩ hk hf
    exact ⟨G0, G1, GT.own_mono h0 hk (fun _ y => y), GT.own_mono h1 hk (fun _ y => y), s.mono hf⟩
  own_agree := by
    rintro K F w w' x p ⟨G0, G1, h0, h1, s⟩ hw
    exact ⟨G0, G1, GT.own_agree h0 (fun b hb => hw b (s.sub _ (by simp) b hb)), GT.own_agree h1 (fun b hb => hw b (s.sub _ (by simp) b hb)), s⟩
  own_lt := by
    rintro K F w x p ⟨G0, G1, h0, h1, s⟩
    exact ⟨_, _, GT.own_lt h0, GT.own_lt h1, s.lt _⟩
  own_rd := by
    rintro K F w x p ⟨G0, G1, h0, h1, s⟩
    exact ⟨GT.rd_mono (GT.own_rd h0) (Nat.le_refl _) (s.sub _ (by simp)), GT.rd_mono (GT.own_rd h1) (Nat.le_refl _) (s.sub _ (by simp))⟩
  own_dflt K F w := ⟨NoB, NoB, GT.own_dflt _ _ _, GT.own_dflt _ _ _, ⟨fun G hG b hb => by simp at hG; rcases hG with rfl <;> exact hb.elim, by simp [Disj, NoB]⟩⟩
structure TEntry where
  tag : Int
  page : Int
  host : Int
  rights : Int
  deriving DecidableEq
theorem TEntry.ext_iff {a b : TEntry} : a = b ↔ a.tag = b.tag ∧ a.page = b.page ∧ a.host = b.host ∧ a.rights = b.rights := by
  cases a; cases b; simp
structure REntry (d : TEntry) : Prop where
  tag : In64 d.tag
  page : In64 d.page
  host : In64 d.host
  rights : In64 d.rights
instance : GT TEntry where
  Ptr := Unit
  dflt := ⟨0, 0, 0, 0⟩
  pdflt := ()
  width := 4
  agg := true
  cells x _ := [I x.tag, I x.page, I x.host, I x.rights]
  rd _ _ _ x _ := REntry x
  own _ _ _ x _ := REntry x
  wpos := by decide
  len _ _ := rfl
  one h := by cases h
  plain _ _ v h := by simp only [List.mem_cons, List.not_mem_nil, or_false] at h; rcases h with rfl | rfl | rfl | rfl <;> rfl
  rd_mono h _ _ := h
  rd_agree h _ := h
  rd_lt h := h
  own_mono h _ _ := h
  own_agree h _ := h
  own_lt h := h
  own_rd h := h
  own_dflt _ _ _ := ⟨⟨by decide, by decide⟩, ⟨by decide, by decide⟩, ⟨by decide, by decide⟩, ⟨by decide, by decide⟩⟩
structure TIns where
  opc : Int
  x : Int
  deriving DecidableEq
theorem TIns.ext_iff {a b : TIns} : a = b ↔ a.opc = b.opc ∧ a.x = b.x := by
  cases a; cases b; simp
structure RIns (d : TIns) : Prop where
  opc : In64 d.opc
  x : In64 d.x
instance : GT TIns where
  Ptr := Unit
  dflt := ⟨0, 0⟩
  pdflt := ()
  width := 2
  agg := true
  cells x _ := [I x.opc, I x.x]
  rd _ _ _ x _ := RIns x
  own _ _ _ x _ := RIns x
  wpos := by decide
  len _ _ := rfl
  one h := by cases h
  plain _ _ v h := by simp only [List.mem_cons, List.not_mem_nil, or_false] at h; rcases h with rfl | rfl <;> rfl
  rd_mono h _ _ := h
  rd_agree h _ := h
  rd_lt h := h
  own_mono h _ _ := h
  own_agree h _ := h
  own_lt h := h
  own_rd h := h
  own_dflt _ _ _ := ⟨⟨by decide, by decide⟩, ⟨by decide, by decide⟩⟩
structure TCtl where
  traps : Int
  post : Int
  opn : Bool
  deriving DecidableEq
theorem TCtl.ext_iff {a b : TCtl} : a = b ↔ a.traps = b.traps ∧ a.post = b.post ∧ a.opn = b.opn := by
  cases a; cases b; simp
structure RCtl (d : TCtl) : Prop where
  traps : In64 d.traps
  post : In64 d.post
instance : GT TCtl where
  Ptr := Unit
  dflt := ⟨0, 0, false⟩
  pdflt := ()
  width := 3
  agg := true
  cells x _ := [I x.traps, I x.post, B x.opn]
  rd _ _ _ x _ := RCtl x
  own _ _ _ x _ := RCtl x
  wpos := by decide
  len _ _ := rfl
  one h := by cases h
  plain _ _ v h := by simp only [List.mem_cons, List.not_mem_nil, or_false] at h; rcases h with rfl | rfl | rfl <;> rfl
  rd_mono h _ _ := h
  rd_agree h _ := h
  rd_lt h := h
  own_mono h _ _ := h
  own_agree h _ := h
  own_lt h := h
  own_rd h := h
  own_dflt _ _ _ := ⟨⟨by decide, by decide⟩, ⟨by decide, by decide⟩⟩
structure TExit where
  kind : Int
  page : Int
  wr : Bool
  n : Int
  deriving DecidableEq
theorem TExit.ext_iff {a b : TExit} : a = b ↔ a.kind = b.kind ∧ a.page = b.page ∧ a.wr = b.wr ∧ a.n = b.n := by
  cases a; cases b; simp
structure RExit (d : TExit) : Prop where
  kind : In64 d.kind
  page : In64 d.page
  n : In64 d.n
instance : GT TExit where
  Ptr := Unit
  dflt := ⟨0, 0, false, 0⟩
  pdflt := ()
  width := 4
  agg := true
  cells x _ := [I x.kind, I x.page, B x.wr, I x.n]
  rd _ _ _ x _ := RExit x
  own _ _ _ x _ := RExit x
  wpos := by decide
  len _ _ := rfl
  one h := by cases h
  plain _ _ v h := by simp only [List.mem_cons, List.not_mem_nil, or_false] at h; rcases h with rfl | rfl | rfl | rfl <;> rfl
  rd_mono h _ _ := h
  rd_agree h _ := h
  rd_lt h := h
  own_mono h _ _ := h
  own_agree h _ := h
  own_lt h := h
  own_rd h := h
  own_dflt _ _ _ := ⟨⟨by decide, by decide⟩, ⟨by decide, by decide⟩, ⟨by decide, by decide⟩⟩
structure TGuest where
  prog : List TIns
  acc : Int
  pc : Int
  written : List TSlot
  live : List TSlot
  ctl : TCtl
  pend : Int
  exit : TExit
  halted : Bool
  seen : List Int
  deriving DecidableEq
theorem TGuest.ext_iff {a b : TGuest} : a = b ↔ a.prog = b.prog ∧ a.acc = b.acc ∧ a.pc = b.pc ∧ a.written = b.written ∧ a.live = b.live ∧ a.ctl = b.ctl ∧ a.pend = b.pend ∧ a.exit = b.exit ∧ a.halted = b.halted ∧ a.seen = b.seen := by
  cases a; cases b; simp
structure PGuest where
  prog : LP TIns
  written : LP TSlot
  live : LP TSlot
  seen : LP Int
structure RGuest (K : Nat) (F : Bl) (w : World) (d : TGuest) (p : PGuest) : Prop where
  prog : GT.rd K F w d.prog p.prog
  acc : In64 d.acc
  pc : In64 d.pc
  written : GT.rd K F w d.written p.written
  live : GT.rd K F w d.live p.live
  ctl : RCtl d.ctl
  pend : In64 d.pend
  exit : RExit d.exit
  seen : GT.rd K F w d.seen p.seen
def OGuest (K : Nat) (F : Bl) (w : World) (x : TGuest) (p : PGuest) : Prop :=
  ∃ G0 G1 G2 G3 : Bl, GT.own K G0 w x.prog p.prog ∧ GT.own K G1 w x.written p.written ∧ GT.own K G2 w x.live p.live ∧ GT.own K G3 w x.seen p.seen ∧ Sepd F [G0, G1, G2, G3] ∧ In64 x.acc ∧ In64 x.pc ∧ RCtl x.ctl ∧ In64 x.pend ∧ RExit x.exit
instance : GT TGuest where
  Ptr := PGuest
  dflt := ⟨[], 0, 0, [], [], ⟨0, 0, false⟩, 0, ⟨0, 0, false, 0⟩, false, []⟩
  pdflt := ⟨GT.pdflt (α := List TIns), GT.pdflt (α := List TSlot), GT.pdflt (α := List TSlot), GT.pdflt (α := List Int)⟩
  width := 15
  agg := true
  cells x p := [slv x.prog.length p.prog.1, I x.acc, I x.pc, slv x.written.length p.written.1, slv x.live.length p.live.1, I x.ctl.traps, I x.ctl.post, B x.ctl.opn, I x.pend, I x.exit.kind, I x.exit.page, B x.exit.wr, I x.exit.n, B x.halted, slv x.seen.length p.seen.1]
  rd := RGuest
  own := OGuest
  wpos := by decide
  len _ _ := rfl
  one h := by cases h
  plain _ _ v h := by simp only [List.mem_cons, List.not_mem_nil, or_false] at h; rcases h with rfl | rfl | rfl | rfl | rfl | rfl | rfl | rfl | rfl | rfl | rfl | rfl | rfl | rfl | rfl <;> rfl
  rd_mono h hk hf := ⟨GT.rd_mono h.prog hk hf, h.acc, h.pc, GT.rd_mono h.written hk hf, GT.rd_mono h.live hk hf, h.ctl, h.pend, h.exit, GT.rd_mono h.seen hk hf⟩
  rd_agree h hw := ⟨GT.rd_agree h.prog hw, h.acc, h.pc, GT.rd_agree h.written hw, GT.rd_agree h.live hw, h.ctl, h.pend, h.exit, GT.rd_agree h.seen hw⟩
  rd_lt h := ⟨GT.rd_lt h.prog, h.acc, h.pc, GT.rd_lt h.written, GT.rd_lt h.live, h.ctl, h.pend, h.exit, GT.rd_lt h.seen⟩
  own_mono := by
    rintro K K' F G w x p ⟨G0, G1, G2, G3, h0, h1, h2, h3, s, f0, f1, f2, f3, f4⟩ hk hf
    exact ⟨G0, G1, G2, G3, GT.own_mono h0 hk (fun _ y => y), GT.own_mono h1 hk (fun _ y => y), GT.own_mono h2 hk (fun _ y => y), GT.own_mono h3 hk (fun _ y => y), s.mono hf, f0, f1, f2, f3, f4⟩
  own_agree := by
    rintro K F w w' x p ⟨G0, G1, G2, G3, h0, h1, h2, h3, s, f0, f1, f2, f3, f4⟩ hw
    exact ⟨G0, G1, G2, G3, GT.own_agree h0 (fun b hb => hw b (s.sub _ (by simp) b hb)), GT.own_agree h1 (fun b hb => hw b (s.sub _ (by simp) b hb)), GT.own_agree h2 (fun b hb => hw b (s.sub _ (by simp) b hb)), GT.own_agree h3 (fun b hb => hw b (s.sub _ (by simp) b hb)), s, f0, f1, f2, f3, f4⟩
  own_lt := by
    rintro K F w x p ⟨G0, G1, G2, G3, h0, h1, h2, h3, s, f0, f1, f2, f3, f4⟩
    exact ⟨_, _, _, _, GT.own_lt h0, GT.own_lt h1, GT.own_lt h2, GT.own_lt h3, s.lt _, f0, f1, f2, f3, f4⟩
  own_rd := by
    rintro K F w x p ⟨G0, G1, G2, G3, h0, h1, h2, h3, s, f0, f1, f2, f3, f4⟩
    exact ⟨GT.rd_mono (GT.own_rd h0) (Nat.le_refl _) (s.sub _ (by simp)), f0, f1, GT.rd_mono (GT.own_rd h1) (Nat.le_refl _) (s.sub _ (by simp)), GT.rd_mono (GT.own_rd h2) (Nat.le_refl _) (s.sub _ (by simp)), f2, f3, f4, GT.rd_mono (GT.own_rd h3) (Nat.le_refl _) (s.sub _ (by simp))⟩
  own_dflt K F w := ⟨NoB, NoB, NoB, NoB, GT.own_dflt _ _ _, GT.own_dflt _ _ _, GT.own_dflt _ _ _, GT.own_dflt _ _ _, ⟨fun G hG b hb => by simp at hG; rcases hG with rfl <;> exact hb.elim, by simp [Disj, NoB]⟩, ⟨by decide, by decide⟩, ⟨by decide, by decide⟩, ⟨⟨by decide, by decide⟩, ⟨by decide, by decide⟩⟩, ⟨by decide, by decide⟩, ⟨⟨by decide, by decide⟩, ⟨by decide, by decide⟩, ⟨by decide, by decide⟩⟩⟩
structure TBare where
  mem : List (List Int)
  guests : List TGuest
  outs : List Int
  pend : Int
  deriving DecidableEq
theorem TBare.ext_iff {a b : TBare} : a = b ↔ a.mem = b.mem ∧ a.guests = b.guests ∧ a.outs = b.outs ∧ a.pend = b.pend := by
  cases a; cases b; simp
structure PBare where
  mem : LP (List Int)
  guests : LP TGuest
  outs : LP Int
structure RBare (K : Nat) (F : Bl) (w : World) (d : TBare) (p : PBare) : Prop where
  mem : GT.rd K F w d.mem p.mem
  guests : GT.rd K F w d.guests p.guests
  outs : GT.rd K F w d.outs p.outs
  pend : In64 d.pend
def OBare (K : Nat) (F : Bl) (w : World) (x : TBare) (p : PBare) : Prop :=
  ∃ G0 G1 G2 : Bl, GT.own K G0 w x.mem p.mem ∧ GT.own K G1 w x.guests p.guests ∧ GT.own K G2 w x.outs p.outs ∧ Sepd F [G0, G1, G2] ∧ In64 x.pend
instance : GT TBare where
  Ptr := PBare
  dflt := ⟨[], [], [], 0⟩
  pdflt := ⟨GT.pdflt (α := List (List Int)), GT.pdflt (α := List TGuest), GT.pdflt (α := List Int)⟩
  width := 4
  agg := true
  cells x p := [slv x.mem.length p.mem.1, slv x.guests.length p.guests.1, slv x.outs.length p.outs.1, I x.pend]
  rd := RBare
  own := OBare
  wpos := by decide
  len _ _ := rfl
  one h := by cases h
  plain _ _ v h := by simp only [List.mem_cons, List.not_mem_nil, or_false] at h; rcases h with rfl | rfl | rfl | rfl <;> rfl
  rd_mono h hk hf := ⟨GT.rd_mono h.mem hk hf, GT.rd_mono h.guests hk hf, GT.rd_mono h.outs hk hf, h.pend⟩
  rd_agree h hw := ⟨GT.rd_agree h.mem hw, GT.rd_agree h.guests hw, GT.rd_agree h.outs hw, h.pend⟩
  rd_lt h := ⟨GT.rd_lt h.mem, GT.rd_lt h.guests, GT.rd_lt h.outs, h.pend⟩
  own_mono := by
    rintro K K' F G w x p ⟨G0, G1, G2, h0, h1, h2, s, f0⟩ hk hf
    exact ⟨G0, G1, G2, GT.own_mono h0 hk (fun _ y => y), GT.own_mono h1 hk (fun _ y => y), GT.own_mono h2 hk (fun _ y => y), s.mono hf, f0⟩
  own_agree := by
    rintro K F w w' x p ⟨G0, G1, G2, h0, h1, h2, s, f0⟩ hw
    exact ⟨G0, G1, G2, GT.own_agree h0 (fun b hb => hw b (s.sub _ (by simp) b hb)), GT.own_agree h1 (fun b hb => hw b (s.sub _ (by simp) b hb)), GT.own_agree h2 (fun b hb => hw b (s.sub _ (by simp) b hb)), s, f0⟩
  own_lt := by
    rintro K F w x p ⟨G0, G1, G2, h0, h1, h2, s, f0⟩
    exact ⟨_, _, _, GT.own_lt h0, GT.own_lt h1, GT.own_lt h2, s.lt _, f0⟩
  own_rd := by
    rintro K F w x p ⟨G0, G1, G2, h0, h1, h2, s, f0⟩
    exact ⟨GT.rd_mono (GT.own_rd h0) (Nat.le_refl _) (s.sub _ (by simp)), GT.rd_mono (GT.own_rd h1) (Nat.le_refl _) (s.sub _ (by simp)), GT.rd_mono (GT.own_rd h2) (Nat.le_refl _) (s.sub _ (by simp)), f0⟩
  own_dflt K F w := ⟨NoB, NoB, NoB, GT.own_dflt _ _ _, GT.own_dflt _ _ _, GT.own_dflt _ _ _, ⟨fun G hG b hb => by simp at hG; rcases hG with rfl <;> exact hb.elim, by simp [Disj, NoB]⟩, ⟨by decide, by decide⟩⟩
structure TMon where
  outer : List TSlot
  out : List (List Int)
  dirty : List Bool
  guests : List TGuest
  outs : List Int
  pend : Int
  traps : Int
  tables : List TKept
  owned : Int
  deriving DecidableEq
theorem TMon.ext_iff {a b : TMon} : a = b ↔ a.outer = b.outer ∧ a.out = b.out ∧ a.dirty = b.dirty ∧ a.guests = b.guests ∧ a.outs = b.outs ∧ a.pend = b.pend ∧ a.traps = b.traps ∧ a.tables = b.tables ∧ a.owned = b.owned := by
  cases a; cases b; simp
structure PMon where
  outer : LP TSlot
  out : LP (List Int)
  dirty : LP Bool
  guests : LP TGuest
  outs : LP Int
  tables : LP TKept
structure RMon (K : Nat) (F : Bl) (w : World) (d : TMon) (p : PMon) : Prop where
  outer : GT.rd K F w d.outer p.outer
  out : GT.rd K F w d.out p.out
  dirty : GT.rd K F w d.dirty p.dirty
  guests : GT.rd K F w d.guests p.guests
  outs : GT.rd K F w d.outs p.outs
  pend : In64 d.pend
  traps : In64 d.traps
  tables : GT.rd K F w d.tables p.tables
  owned : In64 d.owned
def OMon (K : Nat) (F : Bl) (w : World) (x : TMon) (p : PMon) : Prop :=
  ∃ G0 G1 G2 G3 G4 G5 : Bl, GT.own K G0 w x.outer p.outer ∧ GT.own K G1 w x.out p.out ∧ GT.own K G2 w x.dirty p.dirty ∧ GT.own K G3 w x.guests p.guests ∧ GT.own K G4 w x.outs p.outs ∧ GT.own K G5 w x.tables p.tables ∧ Sepd F [G0, G1, G2, G3, G4, G5] ∧ In64 x.pend ∧ In64 x.traps ∧ In64 x.owned
instance : GT TMon where
  Ptr := PMon
  dflt := ⟨[], [], [], [], [], 0, 0, [], 0⟩
  pdflt := ⟨GT.pdflt (α := List TSlot), GT.pdflt (α := List (List Int)), GT.pdflt (α := List Bool), GT.pdflt (α := List TGuest), GT.pdflt (α := List Int), GT.pdflt (α := List TKept)⟩
  width := 9
  agg := true
  cells x p := [slv x.outer.length p.outer.1, slv x.out.length p.out.1, slv x.dirty.length p.dirty.1, slv x.guests.length p.guests.1, slv x.outs.length p.outs.1, I x.pend, I x.traps, slv x.tables.length p.tables.1, I x.owned]
  rd := RMon
  own := OMon
  wpos := by decide
  len _ _ := rfl
  one h := by cases h
  plain _ _ v h := by simp only [List.mem_cons, List.not_mem_nil, or_false] at h; rcases h with rfl | rfl | rfl | rfl | rfl | rfl | rfl | rfl | rfl <;> rfl
  rd_mono h hk hf := ⟨GT.rd_mono h.outer hk hf, GT.rd_mono h.out hk hf, GT.rd_mono h.dirty hk hf, GT.rd_mono h.guests hk hf, GT.rd_mono h.outs hk hf, h.pend, h.traps, GT.rd_mono h.tables hk hf, h.owned⟩
  rd_agree h hw := ⟨GT.rd_agree h.outer hw, GT.rd_agree h.out hw, GT.rd_agree h.dirty hw, GT.rd_agree h.guests hw, GT.rd_agree h.outs hw, h.pend, h.traps, GT.rd_agree h.tables hw, h.owned⟩
  rd_lt h := ⟨GT.rd_lt h.outer, GT.rd_lt h.out, GT.rd_lt h.dirty, GT.rd_lt h.guests, GT.rd_lt h.outs, h.pend, h.traps, GT.rd_lt h.tables, h.owned⟩
  own_mono := by
    rintro K K' F G w x p ⟨G0, G1, G2, G3, G4, G5, h0, h1, h2, h3, h4, h5, s, f0, f1, f2⟩ hk hf
    exact ⟨G0, G1, G2, G3, G4, G5, GT.own_mono h0 hk (fun _ y => y), GT.own_mono h1 hk (fun _ y => y), GT.own_mono h2 hk (fun _ y => y), GT.own_mono h3 hk (fun _ y => y), GT.own_mono h4 hk (fun _ y => y), GT.own_mono h5 hk (fun _ y => y), s.mono hf, f0, f1, f2⟩
  own_agree := by
    rintro K F w w' x p ⟨G0, G1, G2, G3, G4, G5, h0, h1, h2, h3, h4, h5, s, f0, f1, f2⟩ hw
    exact ⟨G0, G1, G2, G3, G4, G5, GT.own_agree h0 (fun b hb => hw b (s.sub _ (by simp) b hb)), GT.own_agree h1 (fun b hb => hw b (s.sub _ (by simp) b hb)), GT.own_agree h2 (fun b hb => hw b (s.sub _ (by simp) b hb)), GT.own_agree h3 (fun b hb => hw b (s.sub _ (by simp) b hb)), GT.own_agree h4 (fun b hb => hw b (s.sub _ (by simp) b hb)), GT.own_agree h5 (fun b hb => hw b (s.sub _ (by simp) b hb)), s, f0, f1, f2⟩
  own_lt := by
    rintro K F w x p ⟨G0, G1, G2, G3, G4, G5, h0, h1, h2, h3, h4, h5, s, f0, f1, f2⟩
    exact ⟨_, _, _, _, _, _, GT.own_lt h0, GT.own_lt h1, GT.own_lt h2, GT.own_lt h3, GT.own_lt h4, GT.own_lt h5, s.lt _, f0, f1, f2⟩
  own_rd := by
    rintro K F w x p ⟨G0, G1, G2, G3, G4, G5, h0, h1, h2, h3, h4, h5, s, f0, f1, f2⟩
    exact ⟨GT.rd_mono (GT.own_rd h0) (Nat.le_refl _) (s.sub _ (by simp)), GT.rd_mono (GT.own_rd h1) (Nat.le_refl _) (s.sub _ (by simp)), GT.rd_mono (GT.own_rd h2) (Nat.le_refl _) (s.sub _ (by simp)), GT.rd_mono (GT.own_rd h3) (Nat.le_refl _) (s.sub _ (by simp)), GT.rd_mono (GT.own_rd h4) (Nat.le_refl _) (s.sub _ (by simp)), f0, f1, GT.rd_mono (GT.own_rd h5) (Nat.le_refl _) (s.sub _ (by simp)), f2⟩
  own_dflt K F w := ⟨NoB, NoB, NoB, NoB, NoB, NoB, GT.own_dflt _ _ _, GT.own_dflt _ _ _, GT.own_dflt _ _ _, GT.own_dflt _ _ _, GT.own_dflt _ _ _, GT.own_dflt _ _ _, ⟨fun G hG b hb => by simp at hG; rcases hG with rfl <;> exact hb.elim, by simp [Disj, NoB]⟩, ⟨by decide, by decide⟩, ⟨by decide, by decide⟩, ⟨by decide, by decide⟩⟩
structure THost where
  mem : List (List Int)
  mons : List TMon
  buf : List TEntry
  iobuf : List TEntry
  deriving DecidableEq
theorem THost.ext_iff {a b : THost} : a = b ↔ a.mem = b.mem ∧ a.mons = b.mons ∧ a.buf = b.buf ∧ a.iobuf = b.iobuf := by
  cases a; cases b; simp
structure PHost where
  mem : LP (List Int)
  mons : LP TMon
  buf : LP TEntry
  iobuf : LP TEntry
structure RHost (K : Nat) (F : Bl) (w : World) (d : THost) (p : PHost) : Prop where
  mem : GT.rd K F w d.mem p.mem
  mons : GT.rd K F w d.mons p.mons
  buf : GT.rd K F w d.buf p.buf
  iobuf : GT.rd K F w d.iobuf p.iobuf
def OHost (K : Nat) (F : Bl) (w : World) (x : THost) (p : PHost) : Prop :=
  ∃ G0 G1 G2 G3 : Bl, GT.own K G0 w x.mem p.mem ∧ GT.own K G1 w x.mons p.mons ∧ GT.own K G2 w x.buf p.buf ∧ GT.own K G3 w x.iobuf p.iobuf ∧ Sepd F [G0, G1, G2, G3]
instance : GT THost where
  Ptr := PHost
  dflt := ⟨[], [], [], []⟩
  pdflt := ⟨GT.pdflt (α := List (List Int)), GT.pdflt (α := List TMon), GT.pdflt (α := List TEntry), GT.pdflt (α := List TEntry)⟩
  width := 4
  agg := true
  cells x p := [slv x.mem.length p.mem.1, slv x.mons.length p.mons.1, slv x.buf.length p.buf.1, slv x.iobuf.length p.iobuf.1]
  rd := RHost
  own := OHost
  wpos := by decide
  len _ _ := rfl
  one h := by cases h
  plain _ _ v h := by simp only [List.mem_cons, List.not_mem_nil, or_false] at h; rcases h with rfl | rfl | rfl | rfl <;> rfl
  rd_mono h hk hf := ⟨GT.rd_mono h.mem hk hf, GT.rd_mono h.mons hk hf, GT.rd_mono h.buf hk hf, GT.rd_mono h.iobuf hk hf⟩
  rd_agree h hw := ⟨GT.rd_agree h.mem hw, GT.rd_agree h.mons hw, GT.rd_agree h.buf hw, GT.rd_agree h.iobuf hw⟩
  rd_lt h := ⟨GT.rd_lt h.mem, GT.rd_lt h.mons, GT.rd_lt h.buf, GT.rd_lt h.iobuf⟩
  own_mono := by
    rintro K K' F G w x p ⟨G0, G1, G2, G3, h0, h1, h2, h3, s⟩ hk hf
    exact ⟨G0, G1, G2, G3, GT.own_mono h0 hk (fun _ y => y), GT.own_mono h1 hk (fun _ y => y), GT.own_mono h2 hk (fun _ y => y), GT.own_mono h3 hk (fun _ y => y), s.mono hf⟩
  own_agree := by
    rintro K F w w' x p ⟨G0, G1, G2, G3, h0, h1, h2, h3, s⟩ hw
    exact ⟨G0, G1, G2, G3, GT.own_agree h0 (fun b hb => hw b (s.sub _ (by simp) b hb)), GT.own_agree h1 (fun b hb => hw b (s.sub _ (by simp) b hb)), GT.own_agree h2 (fun b hb => hw b (s.sub _ (by simp) b hb)), GT.own_agree h3 (fun b hb => hw b (s.sub _ (by simp) b hb)), s⟩
  own_lt := by
    rintro K F w x p ⟨G0, G1, G2, G3, h0, h1, h2, h3, s⟩
    exact ⟨_, _, _, _, GT.own_lt h0, GT.own_lt h1, GT.own_lt h2, GT.own_lt h3, s.lt _⟩
  own_rd := by
    rintro K F w x p ⟨G0, G1, G2, G3, h0, h1, h2, h3, s⟩
    exact ⟨GT.rd_mono (GT.own_rd h0) (Nat.le_refl _) (s.sub _ (by simp)), GT.rd_mono (GT.own_rd h1) (Nat.le_refl _) (s.sub _ (by simp)), GT.rd_mono (GT.own_rd h2) (Nat.le_refl _) (s.sub _ (by simp)), GT.rd_mono (GT.own_rd h3) (Nat.le_refl _) (s.sub _ (by simp))⟩
  own_dflt K F w := ⟨NoB, NoB, NoB, NoB, GT.own_dflt _ _ _, GT.own_dflt _ _ _, GT.own_dflt _ _ _, GT.own_dflt _ _ _, ⟨fun G hG b hb => by simp at hG; rcases hG with rfl <;> exact hb.elim, by simp [Disj, NoB]⟩⟩
structure TAct where
  kind : Int
  m : Int
  g : Int
  x : Int
  y : Int
  z : Int
  deriving DecidableEq
theorem TAct.ext_iff {a b : TAct} : a = b ↔ a.kind = b.kind ∧ a.m = b.m ∧ a.g = b.g ∧ a.x = b.x ∧ a.y = b.y ∧ a.z = b.z := by
  cases a; cases b; simp
structure RAct (d : TAct) : Prop where
  kind : In64 d.kind
  m : In64 d.m
  g : In64 d.g
  x : In64 d.x
  y : In64 d.y
  z : In64 d.z
instance : GT TAct where
  Ptr := Unit
  dflt := ⟨0, 0, 0, 0, 0, 0⟩
  pdflt := ()
  width := 6
  agg := true
  cells x _ := [I x.kind, I x.m, I x.g, I x.x, I x.y, I x.z]
  rd _ _ _ x _ := RAct x
  own _ _ _ x _ := RAct x
  wpos := by decide
  len _ _ := rfl
  one h := by cases h
  plain _ _ v h := by simp only [List.mem_cons, List.not_mem_nil, or_false] at h; rcases h with rfl | rfl | rfl | rfl | rfl | rfl <;> rfl
  rd_mono h _ _ := h
  rd_agree h _ := h
  rd_lt h := h
  own_mono h _ _ := h
  own_agree h _ := h
  own_lt h := h
  own_rd h := h
  own_dflt _ _ _ := ⟨⟨by decide, by decide⟩, ⟨by decide, by decide⟩, ⟨by decide, by decide⟩, ⟨by decide, by decide⟩, ⟨by decide, by decide⟩, ⟨by decide, by decide⟩⟩
structure TTold where
  ok : Bool
  n : Int
  deriving DecidableEq
theorem TTold.ext_iff {a b : TTold} : a = b ↔ a.ok = b.ok ∧ a.n = b.n := by
  cases a; cases b; simp
structure RTold (d : TTold) : Prop where
  n : In64 d.n
instance : GT TTold where
  Ptr := Unit
  dflt := ⟨false, 0⟩
  pdflt := ()
  width := 2
  agg := true
  cells x _ := [B x.ok, I x.n]
  rd _ _ _ x _ := RTold x
  own _ _ _ x _ := RTold x
  wpos := by decide
  len _ _ := rfl
  one h := by cases h
  plain _ _ v h := by simp only [List.mem_cons, List.not_mem_nil, or_false] at h; rcases h with rfl | rfl <;> rfl
  rd_mono h _ _ := h
  rd_agree h _ := h
  rd_lt h := h
  own_mono h _ _ := h
  own_agree h _ := h
  own_lt h := h
  own_rd h := h
  own_dflt _ _ _ := ⟨⟨by decide, by decide⟩⟩
end Go.Proofs.Ytgonaioedbphgaa
