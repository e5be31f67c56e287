/- The steps in short: what only the kernel reckons is left out. No program is named here. -/
import Derived.Test.YtgonaioedbphgaaCore9
import Derived.KernelRfl
namespace Go.Proofs.Ytgonaioedbphgaa
open Go
set_option linter.unusedVariables false
variable {P : Program} {n : Nat} {w0 : World} {M : Bl} {u : World} {N : Bl} {β : Nat → Nat} {σ : Sy} {a : Act} {w : World} {ops : Array Oper} {Q : Exit → Act → World → Prop}
theorem St.q (S : St P n w0 M u N β σ a w) {i : Nat} (k : Nat) (keep : List Nat) (m : Nat) (σ' : Sy) {claims : List (Ask × Value)} (hq : AllQ P u N claims) (K : ∀ a' w' β', St P n w0 M u N β' σ' a' w' → RG P ops Q (i + k) a' w')
    (hev : evK P n ops i k σ (claims.map (·.2)) keep m = some (σ', claims) := by kernel_rfl) : RG P ops Q i a w := S.quiet hq hev K
theorem St.c (S : St P n w0 M u N β σ a w) {c : Operand} {x y : Code} (e : Bool) (ht : e = true → x.wp P Q a w) (hf : e = false → y.wp P Q a w) (he : σ.get c = some (.v (.bool e)) := by kernel_rfl) : (Code.cond c x y).wp P Q a w := S.cond he ht hf
theorem St.r (S : St P n w0 M u N β σ a w) {fn : Func} {R : Ending → World → Prop} (vs : List Value) (h : R (.returned (packed vs)) w) (hv : resVals P σ fn.results.toList = some vs := by kernel_rfl) : bodyPost P fn R .ret a w := S.ret hv h
theorem St.f (S : St P n w0 M u N β σ a w) {fn : Func} {R : Ending → World → Prop} (vs : List Value) (h : R (.returned (packed vs)) w) (hv : resVals P σ fn.results.toList = some vs := by kernel_rfl) : bodyPost P fn R .normal a w := S.fall hv h
theorem St.p (S : St P n w0 M u N β σ a w) (keep : List Nat) (m : Nat) (σ' : Sy) (h : pruneK σ keep m = some σ' := by kernel_rfl) : St P n w0 M u N β σ' a w := S.prune h
def memN : List Nat → Nat → Bool
  | [], _ => false
  | s :: r, t => bif Nat.beq s t then true else memN r t
def hasK : Env → Nat → Bool
  | [], _ => false
  | (s, _) :: r, t => bif Nat.beq s t then true else hasK r t
def restK : Env → List Nat → Env → List Nat
  | [], _, _ => []
  | (t, _) :: r, dr, new => bif memN dr t then restK r dr new else bif hasK new t then restK r dr new else t :: restK r dr new
def keysK : Env → List Nat
  | [] => []
  | (s, _) :: r => s :: keysK r
def bxo : List (List Value) → List (Nat × List Value) → List (List Value)
  | b, [] => b
  | b, (k, c) :: r => bxo (bif Nat.blt k b.length then b.set k c else b ++ [c]) r
def Sy.dl (σ : Sy) (dr : List Nat) (new : Env) (m : Nat) (bs : List (Nat × List Value)) : Sy := ⟨σ.keep m (restK σ.env dr new) ++ new, (bxo σ.bx bs).take m⟩
theorem St.qa (S : St P n w0 M u N β σ a w) {i : Nat} (k : Nat) (dr : List Nat) (new : Env)
    (K : ∀ a' w' β', St P n w0 M u N β' (σ.dl dr new 1000 []) a' w' → RG P ops Q (i + k) a' w')
    (hev : evK P n ops i k σ [] (restK σ.env dr new ++ keysK new) 1000 = some (σ.dl dr new 1000 [], []) := by kernel_rfl) : RG P ops Q i a w := S.quiet .nil hev K
theorem St.qb (S : St P n w0 M u N β σ a w) {i : Nat} (k : Nat) (dr : List Nat) (new : Env) {claims : List (Ask × Value)} (hq : AllQ P u N claims)
    (K : ∀ a' w' β', St P n w0 M u N β' (σ.dl dr new 1000 []) a' w' → RG P ops Q (i + k) a' w')
    (hev : evK P n ops i k σ (claims.map (·.2)) (restK σ.env dr new ++ keysK new) 1000 = some (σ.dl dr new 1000 [], claims) := by kernel_rfl) : RG P ops Q i a w := S.quiet hq hev K
theorem St.z (S : St P n w0 M u N β σ a w) {σ' : Sy} (h : pruneK σ (keysK σ'.env) σ'.bx.length = some σ' := by kernel_rfl) : St P n w0 M u N β σ' a w := S.prune h
theorem rd {i : Nat} (h : Q .normal a w) (hi : Nat.ble ops.size i = true := by rfl) : RG P ops Q i a w := RG.done hi h
theorem wr (h : Q .ret a w) : Code.ret.wp P Q a w := wp_ret h
abbrev w1 (x : Int) : Int := IntKind.i64.wrap (x + 1)
section
variable {α : Type} [GT α] {xs : List α} {p : LP α} {K : Nat}
theorem qn (h : GT.rd K N u xs p) (k : Nat) {l : Nat} {t e : TypeId} (ht : P.underlying t = some (.slice e)) (hl : l = xs.length := by rfl) (hi : k < xs.length := by omega) (he : tsize P e = some (GT.width α) := by kernel_rfl) :
    Quiet1 P u N (.idx t (slv l p.1) (I (k : Int))) (pt p.1.b (p.1.off + k * GT.width α)) := Q_idx h hl rfl hi ht he
theorem qt (h : GT.rd K N u xs p) (i : Int) {l : Nat} {t e : TypeId} (ht : P.underlying t = some (.slice e)) (hl : l = xs.length := by rfl) (hk : i = (i.toNat : Int) := by omega) (hi : i.toNat < xs.length := by omega) (he : tsize P e = some (GT.width α) := by kernel_rfl) :
    Quiet1 P u N (.idx t (slv l p.1) (I i)) (pt p.1.b (p.1.off + i.toNat * GT.width α)) := Q_idx h hl hk hi ht he
theorem qx (h : GT.rd K N u xs p) (t : TypeId) (k : Nat) (hi : k < xs.length := by omega) (ha : GT.agg α = false := by rfl) (ht : tagg P t = some false := by kernel_rfl) :
    Quiet1 P u N (.load t (pt p.1.b (p.1.off + k * GT.width α))) (GT.val (el xs k) (p.2 k)) := Q_el1 h hi ha ht
theorem qs (h : GT.rd K N u xs p) (t : TypeId) (k : Nat) (hi : k < xs.length := by omega) (hg : GT.agg α = true := by rfl) (ha : tagg P t = some true := by kernel_rfl) (hs : tsize P t = some (GT.width α) := by kernel_rfl) :
    Quiet1 P u N (.load t (pt p.1.b (p.1.off + k * GT.width α))) (GT.val (el xs k) (p.2 k)) := Q_el h hi hg ha hs
theorem qc (h : GT.rd K N u xs p) (t : TypeId) (k j : Nat) (v : Value) (hi : k < xs.length := by omega) (hj : (GT.cells (el xs k) (p.2 k))[j]? = some v := by kernel_rfl) (ht : tagg P t = some false := by kernel_rfl) :
    Quiet1 P u N (.load t (pt p.1.b (p.1.off + k * GT.width α + j))) v := Q_cell h hi hj ht
theorem qp (x y : Int) (h : In64 (x + y) := by exact ⟨by omega, by omega⟩) : Quiet1 P u N (.int .add .i64 x y) (I (x + y)) := Q_add h
theorem qm (x y : Int) (h : In64 (x - y) := by exact ⟨by omega, by omega⟩) : Quiet1 P u N (.int .sub .i64 x y) (I (x - y)) := Q_sub h
theorem St.k1 {K' : Act → World → Prop} (S : St P n w0 M u N β σ a w) {i : Nat} {f : FuncId} {vals : List Value} (d : Tmp) {r : α} (hc : Calls P f vals.toArray w (Ret1 NoB w r))
    (K : ∀ a' w' N' q F, St P n w0 M w' N' β ⟨(d, .v (GT.val r q)) :: σ.env, σ.bx⟩ a' w' → (∀ b, N b → N' b ∧ w'.heap[b]? = u.heap[b]?) → Ow w0 M w' N' F r q → Disj N F → K' a' w')
    (hcall : callAc P n ops i σ = some (f, vals, d) := by kernel_rfl) (hd : Nat.blt d n = true := by rfl) : wpOp P ops Q i K' a w := S.call1 hc hcall hd K
end
abbrev RD {α : Type} [GT α] (w0 : World) (x : α) (p : GT.Ptr α) : Prop := GT.rd KK (Lt w0.heap.size) w0 x p
theorem o0 {p : Prop} (h : p := by first | omega | (simp; done) | (simp; omega)) : p := h
theorem oz {p : Prop} (h : p := by clear S; first | omega | (simp [*]; done) | (simp [*]; omega)) : p := h
end Go.Proofs.Ytgonaioedbphgaa
