/- Package curve: which points are points; the plane, its numbers. No conditions but that numbers are below the modulus. -/
import Derived.Test.YtildcmggcbdhpaaFieldC
namespace Go.Proofs.Ytildcmggcbdhpaa
open Go.Ex Go.RowKit Lim

/-- an unlikeness of two numbers, in slot d -/
def neS (a b : Nat) : Sem Value := do eqGuard .neq 24 (.tmp 0) (.tmp 0) (NV a) (NV b); binOp .neq 24 (NV a) (NV b)
def neB (d a b : Nat) (q : Bool) : Rec := opF d (neS a b) (.bool q)
theorem guard24n (x y : Operand) (a b : Nat) (w : World) : (eqGuard .neq 24 x y (NV a) (NV b)).run Try.prog w = .ok () w := by
  have : Try.prog.eqGuardType Try.prog.depth 24 = false := by kernel_rfl
  unfold eqGuard NV
  simp [this]
theorem neB_ok {w0 : World} {d a b : Nat} {q : Bool} (ha : a < R) (hb : b < R) (hq : decide (a = b) = !q) : (neB d a b q).Ok Try.prog w0 := opF_ok fun w => by
  unfold neS
  rw [Sem.run_bind, guard24n, Result.andThen_ok]
  have e : binOp .neq 24 (NV a) (NV b) = (do pure (.bool (!(← Op.equal 24 (NV a) (NV b))))) := by kernel_rfl
  rw [e, Sem.run_bind, eq24 ha hb, hq]
  simp

def PV (x y : Nat) (inf : Bool) : Value := .agg #[U (l0 x), U (l1 x), U (l2 x), U (l3 x), U (l0 y), U (l1 y), U (l2 y), U (l3 y), .bool inf]
def JV (x y z : Nat) : Value := .agg #[U (l0 x), U (l1 x), U (l2 x), U (l3 x), U (l0 y), U (l1 y), U (l2 y), U (l3 y), U (l0 z), U (l1 z), U (l2 z), U (l3 z)]

/-- the field of the coordinates, made by the caller -/
def fO (g h : Nat) : List Ent := [montO h P P2 Pi, fieldE g h P rt [] true]
theorem PureAt.own {g h : Nat} {f : FuncId} {args : List Value} {v : Value} (hp : PureAt (fN g h P P2 Pi rt) f args v) : PureAt (fO g h) f args v := hp.of fun w hw e he => by
  simp only [fN, List.mem_cons, List.not_mem_nil, or_false] at he
  rcases he with rfl | rfl
  · exact hw (fieldE g h P rt [] true) (by simp [fO])
  · exact hw (montO h P P2 Pi) (by simp [fO])
/-- a call on it: it lies in blocks j and j + 1 -/
def oc (f : FuncId) (j : Nat) (args : List Value) (v : Value) : Rec := lc f (fun σ => PT (σ (j + 1)) :: args) (fun σ => [(j, montO (σ j) P P2 Pi), (j + 1, fieldE (σ (j + 1)) (σ j) P rt [] true)]) v
theorem oc_ok {w : World} {f : FuncId} {j : Nat} {args : List Value} {v : Value} (h : ∀ g h, PureAt (fN g h P P2 Pi rt) f (PT g :: args) v) : (oc f j args v).Ok Try.prog w := lc_ok fun σ => (h (σ (j + 1)) (σ j)).own
def bc (j : Nat) : Rec := nc 63 [] 2 twoV baseN (.at_ (j + 1))
theorem bc_ok {w : World} {j : Nat} : (bc j).Ok Try.prog w := nc_ok f63_ok

/-- curve.G -/
def GX : Nat := 55066263022277343669578718895168534326250603453777594175500187360389116729240
def GY : Nat := 32670510020758816978083085130507043184471273380659243275938904335757337482424
theorem f71_ok : Pure 71 [] (PV GX GY false) := pure_of Try.func71 rfl 8 [] [] _ (fun _ => trivial) (fun γ => by kernel_rfl)

def fmul (a b : Nat) : Nat := a * b % P
def fadd (a b : Nat) : Nat := (a + b) % P
def fsub (a b : Nat) : Nat := (a + P - b) % P
def cub (x : Nat) : Nat := fadd (fmul (fmul x x) x) 7
theorem P_pos : 0 < P := by decide
theorem fmul_lt (a b : Nat) : fmul a b < P := Nat.mod_lt _ P_pos
theorem fadd_lt (a b : Nat) : fadd a b < P := Nat.mod_lt _ P_pos
theorem fsub_lt (a b : Nat) : fsub a b < P := Nat.mod_lt _ P_pos
theorem P_R : P < R := by decide

/-- curve.cubic -/
theorem f69_ok {g h x : Nat} (hx : x < P) : PureAt (fN g h P P2 Pi rt) 69 [PT g, NV x] (NV (cub x)) :=
  pureAt_of Try.func69 rfl 8 [(PT g, .at_ 0), (NV x, .no)] (fN g h P P2 Pi rt) [mc 31 [PT g, NV x, NV x] (fNi g h P P2 Pi rt) (.tuple #[NV (fmul x x), I 0]), mc 31 [PT g, NV (fmul x x), NV x] (fNi g h P P2 Pi rt) (.tuple #[NV (fmul (fmul x x) x), I 0]),
      mc 30 [PT g, NV (fmul (fmul x x) x), NV 7] (fNi g h P P2 Pi rt) (.tuple #[NV (cub x), I 0])] _ rfl
    (fun _ => ⟨mc_ok (f31_ok montP hx hx), mc_ok (f31_ok montP (fmul_lt _ _) hx), mc_ok (f30_ok montP.lt (fmul_lt _ _) (by decide)), trivial⟩) (fun γ => by kernel_rfl)

/-- is it a point? -/
def isPt (x y : Nat) (inf : Bool) : Bool := if inf then decide (x = 0) && decide (y = 0) else decide (x < P) && (decide (y < P) && decide (fmul y y = cub x))

/-- curve.Check -/
theorem f21_inf {x y : Nat} (hx : x < R) (hy : y < R) : Pure 21 [PV x y true] (I (if isPt x y true then 0 else 30)) := by
  by_cases h : x = 0
  · by_cases h' : y = 0
    · have : isPt x y true = true := by simp [isPt, h, h']
      rw [this]
      exact pure_of Try.func21 rfl 8 [PV x y true] [bc 1, neB 14 x 0 false, neB 19 y 0 false] _ (fun _ => ⟨bc_ok, neB_ok hx (by decide) (by simp [h]), neB_ok hy (by decide) (by simp [h']), trivial⟩) (fun γ => by kernel_rfl)
    · have : isPt x y true = false := by simp [isPt, h']
      rw [this]
      exact pure_of Try.func21 rfl 8 [PV x y true] [bc 1, neB 14 x 0 false, neB 19 y 0 true] _ (fun _ => ⟨bc_ok, neB_ok hx (by decide) (by simp [h]), neB_ok hy (by decide) (by simp [h']), trivial⟩) (fun γ => by kernel_rfl)
  · have : isPt x y true = false := by simp [isPt, h]
    rw [this]
    exact pure_of Try.func21 rfl 8 [PV x y true] [bc 1, neB 14 x 0 true] _ (fun _ => ⟨bc_ok, neB_ok hx (by decide) (by simp [h]), trivial⟩) (fun γ => by kernel_rfl)
theorem f21_aff {x y : Nat} (hx : x < R) (hy : y < R) : Pure 21 [PV x y false] (I (if isPt x y false then 0 else 30)) := by
  by_cases h : x < P
  · by_cases h' : y < P
    · by_cases h2 : fmul y y = cub x
      · have : isPt x y false = true := by simp [isPt, h, h', h2]
        rw [this]
        exact pure_of Try.func21 rfl 8 [PV x y false] [bc 1, oc 68 1 [NV x] (I 0), oc 68 1 [NV y] (I 0), oc 31 1 [NV y, NV y] (.tuple #[NV (fmul y y), I 0]), oc 69 1 [NV x] (NV (cub x)), neB 52 (fmul y y) (cub x) false] _
          (fun _ => ⟨bc_ok, oc_ok fun _ _ => f68_in P_R h, oc_ok fun _ _ => f68_in P_R h', oc_ok fun _ _ => f31_ok montP h' h', oc_ok fun _ _ => f69_ok h, neB_ok (Nat.lt_trans (fmul_lt _ _) P_R) (Nat.lt_trans (fadd_lt _ _) P_R) (by simp [h2]), trivial⟩) (fun γ => by kernel_rfl)
      · have : isPt x y false = false := by simp [isPt, h2]
        rw [this]
        exact pure_of Try.func21 rfl 8 [PV x y false] [bc 1, oc 68 1 [NV x] (I 0), oc 68 1 [NV y] (I 0), oc 31 1 [NV y, NV y] (.tuple #[NV (fmul y y), I 0]), oc 69 1 [NV x] (NV (cub x)), neB 52 (fmul y y) (cub x) true] _
          (fun _ => ⟨bc_ok, oc_ok fun _ _ => f68_in P_R h, oc_ok fun _ _ => f68_in P_R h', oc_ok fun _ _ => f31_ok montP h' h', oc_ok fun _ _ => f69_ok h, neB_ok (Nat.lt_trans (fmul_lt _ _) P_R) (Nat.lt_trans (fadd_lt _ _) P_R) (by simp [h2]), trivial⟩) (fun γ => by kernel_rfl)
    · have : isPt x y false = false := by simp [isPt, h']
      rw [this]
      exact pure_of Try.func21 rfl 8 [PV x y false] [bc 1, oc 68 1 [NV x] (I 0), oc 68 1 [NV y] (I 20)] _ (fun _ => ⟨bc_ok, oc_ok fun _ _ => f68_in P_R h, oc_ok fun _ _ => f68_out P_R (by omega) hy, trivial⟩) (fun γ => by kernel_rfl)
  · have : isPt x y false = false := by simp [isPt, h]
    rw [this]
    exact pure_of Try.func21 rfl 8 [PV x y false] [bc 1, oc 68 1 [NV x] (I 20)] _ (fun _ => ⟨bc_ok, oc_ok fun _ _ => f68_out P_R (by omega) hx, trivial⟩) (fun γ => by kernel_rfl)
theorem f21_ok {x y : Nat} {inf : Bool} (hx : x < R) (hy : y < R) : Pure 21 [PV x y inf] (I (if isPt x y inf then 0 else 30)) := by
  cases inf
  · exact f21_aff hx hy
  · exact f21_inf hx hy

end Go.Proofs.Ytildcmggcbdhpaa
