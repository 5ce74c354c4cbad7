/- Package curve: which points are points; the plane, its numbers. No conditions but that numbers are below the modulus. Package curve: the plane's sums. No conditions but that numbers are below the modulus. Package curve: twice a point, and sums in the plane. No conditions but that numbers are below the modulus. -/
import Derived.Test.YtildcmggcbdhpaaField
namespace Go.Proofs.Ytildcmggcbdhpaa
open Go.Ex Go.RowKit Lim

/-- an unlikeness of two numbers, in slot d -/
def neS (a b : Nat) : Sem Value := do eqGuard .neq 24 (.tmp 0) (.tmp 0) (NV a) (NV b); binOp .neq 24 (NV a) (NV b)
def neB (d a b : Nat) (q : Bool) : Rec := opF d (neS a b) (.bool q)
theorem guard24n (x y : Operand) (a b : Nat) (w : World) : (eqGuard .neq 24 x y (NV a) (NV b)).run Try.prog w = .ok () w := by
  have : Try.prog.eqGuardType Try.prog.depth 24 = false := by kernel_rfl
  unfold eqGuard NV
  simp [this]
theorem neB_ok {w0 : World} {d a b : Nat} {q : Bool} (ha : a < R) (hb : b < R) (hq : decide (a = b) = !q) : (neB d a b q).Ok Try.prog w0 := opF_ok fun w => by
  unfold neS
  rw [Sem.run_bind, guard24n, Result.andThen_ok]
  have e : binOp .neq 24 (NV a) (NV b) = (do pure (.bool (!(← Op.equal 24 (NV a) (NV b))))) := by kernel_rfl
  rw [e, Sem.run_bind, eq24 ha hb, hq]
  simp

def PV (x y : Nat) (inf : Bool) : Value := .agg #[U (l0 x), U (l1 x), U (l2 x), U (l3 x), U (l0 y), U (l1 y), U (l2 y), U (l3 y), .bool inf]
def JV (x y z : Nat) : Value := .agg #[U (l0 x), U (l1 x), U (l2 x), U (l3 x), U (l0 y), U (l1 y), U (l2 y), U (l3 y), U (l0 z), U (l1 z), U (l2 z), U (l3 z)]

/-- the field of the coordinates, made by the caller -/
def fO (g h : Nat) : List Ent := [montO h P P2 Pi, fieldE g h P rt [] true]
theorem PureAt.own {g h : Nat} {f : FuncId} {args : List Value} {v : Value} (hp : PureAt (fN g h P P2 Pi rt) f args v) : PureAt (fO g h) f args v := hp.of fun w hw e he => by
  simp only [fN, List.mem_cons, List.not_mem_nil, or_false] at he
  rcases he with rfl | rfl
  · exact (hw (fieldE g h P rt [] true) (by simp [fO])).weak rfl rfl rfl rfl
  · exact (hw (montO h P P2 Pi) (by simp [fO])).weak rfl rfl rfl rfl
/-- a call on it: it lies in blocks j and j + 1 -/
def oc (f : FuncId) (j : Nat) (args : List Value) (v : Value) : Rec := lc f (fun σ => PT (σ (j + 1)) :: args) (fun σ => [(j, montO (σ j) P P2 Pi), (j + 1, fieldE (σ (j + 1)) (σ j) P rt [] true)]) v
theorem oc_ok {w : World} {f : FuncId} {j : Nat} {args : List Value} {v : Value} (h : ∀ g h, PureAt (fN g h P P2 Pi rt) f (PT g :: args) v) : (oc f j args v).Ok Try.prog w := lc_ok fun σ => (h (σ (j + 1)) (σ j)).own
def bc (j : Nat) : Rec := nc 63 [] 2 twoV baseN (.at_ (j + 1))
theorem bc_ok {w : World} {j : Nat} : (bc j).Ok Try.prog w := nc_ok f63_ok

/-- curve.G -/
def GX : Nat := 55066263022277343669578718895168534326250603453777594175500187360389116729240
def GY : Nat := 32670510020758816978083085130507043184471273380659243275938904335757337482424
theorem f71_ok : Pure 71 [] (PV GX GY false) := pure_of Try.func71 rfl 8 [] [] _ (fun _ => trivial) (fun γ => by kernel_rfl)

def fmul (a b : Nat) : Nat := a * b % P
def fadd (a b : Nat) : Nat := (a + b) % P
def fsub (a b : Nat) : Nat := (a + P - b) % P
def cub (x : Nat) : Nat := fadd (fmul (fmul x x) x) 7
theorem P_pos : 0 < P := by decide
theorem fmul_lt (a b : Nat) : fmul a b < P := Nat.mod_lt _ P_pos
theorem fadd_lt (a b : Nat) : fadd a b < P := Nat.mod_lt _ P_pos
theorem fsub_lt (a b : Nat) : fsub a b < P := Nat.mod_lt _ P_pos
theorem P_R : P < R := by decide

/-- curve.cubic -/
theorem f69_ok {g h x : Nat} (hx : x < P) : PureAt (fN g h P P2 Pi rt) 69 [PT g, NV x] (NV (cub x)) :=
  pureAt_of Try.func69 rfl 8 [(PT g, .at_ 0), (NV x, .no)] (fN g h P P2 Pi rt) [mc 31 [PT g, NV x, NV x] (fNi g h P P2 Pi rt) (.tuple #[NV (fmul x x), I 0]), mc 31 [PT g, NV (fmul x x), NV x] (fNi g h P P2 Pi rt) (.tuple #[NV (fmul (fmul x x) x), I 0]),
      mc 30 [PT g, NV (fmul (fmul x x) x), NV 7] (fNi g h P P2 Pi rt) (.tuple #[NV (cub x), I 0])] _ rfl
    (fun _ => ⟨mc_ok (f31_ok montP hx hx), mc_ok (f31_ok montP (fmul_lt _ _) hx), mc_ok (f30_ok montP.lt (fmul_lt _ _) (by decide)), trivial⟩) (fun γ => by kernel_rfl)

/-- is it a point? -/
def isPt (x y : Nat) (inf : Bool) : Bool := if inf then decide (x = 0) && decide (y = 0) else decide (x < P) && (decide (y < P) && decide (fmul y y = cub x))

/-- curve.Check -/
theorem f21_inf {x y : Nat} (hx : x < R) (hy : y < R) : Pure 21 [PV x y true] (I (if isPt x y true then 0 else 30)) := by
  by_cases h : x = 0
  · by_cases h' : y = 0
    · have : isPt x y true = true := by simp [isPt, h, h']
      rw [this]
      exact pure_of Try.func21 rfl 8 [PV x y true] [bc 1, neB 14 x 0 false, neB 19 y 0 false] _ (fun _ => ⟨bc_ok, neB_ok hx (by decide) (by simp [h]), neB_ok hy (by decide) (by simp [h']), trivial⟩) (fun γ => by kernel_rfl)
    · have : isPt x y true = false := by simp [isPt, h']
      rw [this]
      exact pure_of Try.func21 rfl 8 [PV x y true] [bc 1, neB 14 x 0 false, neB 19 y 0 true] _ (fun _ => ⟨bc_ok, neB_ok hx (by decide) (by simp [h]), neB_ok hy (by decide) (by simp [h']), trivial⟩) (fun γ => by kernel_rfl)
  · have : isPt x y true = false := by simp [isPt, h]
    rw [this]
    exact pure_of Try.func21 rfl 8 [PV x y true] [bc 1, neB 14 x 0 true] _ (fun _ => ⟨bc_ok, neB_ok hx (by decide) (by simp [h]), trivial⟩) (fun γ => by kernel_rfl)
theorem f21_aff {x y : Nat} (hx : x < R) (hy : y < R) : Pure 21 [PV x y false] (I (if isPt x y false then 0 else 30)) := by
  by_cases h : x < P
  · by_cases h' : y < P
    · by_cases h2 : fmul y y = cub x
      · have : isPt x y false = true := by simp [isPt, h, h', h2]
        rw [this]
        exact pure_of Try.func21 rfl 8 [PV x y false] [bc 1, oc 68 1 [NV x] (I 0), oc 68 1 [NV y] (I 0), oc 31 1 [NV y, NV y] (.tuple #[NV (fmul y y), I 0]), oc 69 1 [NV x] (NV (cub x)), neB 52 (fmul y y) (cub x) false] _
          (fun _ => ⟨bc_ok, oc_ok fun _ _ => f68_in P_R h, oc_ok fun _ _ => f68_in P_R h', oc_ok fun _ _ => f31_ok montP h' h', oc_ok fun _ _ => f69_ok h, neB_ok (Nat.lt_trans (fmul_lt _ _) P_R) (Nat.lt_trans (fadd_lt _ _) P_R) (by simp [h2]), trivial⟩) (fun γ => by kernel_rfl)
      · have : isPt x y false = false := by simp [isPt, h2]
        rw [this]
        exact pure_of Try.func21 rfl 8 [PV x y false] [bc 1, oc 68 1 [NV x] (I 0), oc 68 1 [NV y] (I 0), oc 31 1 [NV y, NV y] (.tuple #[NV (fmul y y), I 0]), oc 69 1 [NV x] (NV (cub x)), neB 52 (fmul y y) (cub x) true] _
          (fun _ => ⟨bc_ok, oc_ok fun _ _ => f68_in P_R h, oc_ok fun _ _ => f68_in P_R h', oc_ok fun _ _ => f31_ok montP h' h', oc_ok fun _ _ => f69_ok h, neB_ok (Nat.lt_trans (fmul_lt _ _) P_R) (Nat.lt_trans (fadd_lt _ _) P_R) (by simp [h2]), trivial⟩) (fun γ => by kernel_rfl)
    · have : isPt x y false = false := by simp [isPt, h']
      rw [this]
      exact pure_of Try.func21 rfl 8 [PV x y false] [bc 1, oc 68 1 [NV x] (I 0), oc 68 1 [NV y] (I 20)] _ (fun _ => ⟨bc_ok, oc_ok fun _ _ => f68_in P_R h, oc_ok fun _ _ => f68_out P_R (by omega) hy, trivial⟩) (fun γ => by kernel_rfl)
  · have : isPt x y false = false := by simp [isPt, h]
    rw [this]
    exact pure_of Try.func21 rfl 8 [PV x y false] [bc 1, oc 68 1 [NV x] (I 20)] _ (fun _ => ⟨bc_ok, oc_ok fun _ _ => f68_out P_R (by omega) hx, trivial⟩) (fun γ => by kernel_rfl)
theorem f21_ok {x y : Nat} {inf : Bool} (hx : x < R) (hy : y < R) : Pure 21 [PV x y inf] (I (if isPt x y inf then 0 else 30)) := by
  cases inf
  · exact f21_aff hx hy
  · exact f21_inf hx hy

end Go.Proofs.Ytildcmggcbdhpaa

namespace Go.Proofs.Ytildcmggcbdhpaa
open Go.Ex Go.RowKit Lim

/-- the plane's one -/
def one : Nat := 1 * R % P
def planeE (g h : Nat) (tg : List Tag) (own : Bool) : Ent := ⟨g, [PT h, U (l0 P), U (l1 P), U (l2 P), U (l3 P), U (l0 one), U (l1 one), U (l2 one), U (l3 one)], tg, 143, own⟩
def planeN (δ : Nat → Nat) : List Ent := [montO (δ 0) P P2 Pi, planeE (δ 1) (δ 0) [] true]

/-- curve.newPlane -/
theorem f56_ok : Makes 56 [] 2 twoV planeN := fun w =>
  makes_at Try.func56 rfl 8 [] [] [bc 0, lc 99 (fun σ => [PT (σ 1)]) (fun σ => [(1, fieldE (σ 1) (σ 0) P rt [] true)]) (NV P), nc 77 [NV P] 1 newV (fun δ => [montO (δ 0) P P2 Pi]) (.tup [.at_ 3, .no]),
      lc 100 (fun σ => [PT (σ 3), NV 1]) (fun σ => [(3, montO (σ 3) P P2 Pi)]) (.tuple #[NV one, I 0])] 2 (fun q => 2 * q + 3) [3, 5] twoV planeN w (fun e he => by cases he)
    (fun _ => ⟨bc_ok, lc_ok fun σ => (f99_ok (σ 1) (σ 0) P rt).of fun w hw e he => by
        simp only [List.mem_singleton] at he
        subst he
        exact (hw (fieldE (σ 1) (σ 0) P rt [] true) (by simp)).weak rfl rfl rfl rfl, nc_ok f77_P, lc_ok fun σ => (f100_ok (g := σ 3) montP (a := 1) (by decide)).of fun w hw e he => by
        simp only [List.mem_singleton] at he
        subst he
        exact (hw (montO (σ 3) P P2 Pi) (by simp)).weak rfl rfl rfl rfl, trivial⟩) (by decide) (fun _ => rfl) (fun δ e he => by simp [planeN] at he; rcases he with rfl | rfl <;> rfl) (fun γ => by kernel_rfl)

def lTg : List Tag := [.at_ 1]
def lN (g h : Nat) : List Ent := [planeE g h lTg false, montE h P P2 Pi]
def lNi (g h : Nat) : List (Nat × Ent) := [(0, planeE g h lTg false), (1, montE h P P2 Pi)]
def mm (a b : Nat) : Nat := redc P (a * b)
theorem mm_lt (a b : Nat) : mm a b < P := redc_lt (by decide)

/-- (plane).mul -/
theorem f104_ok {g h a b : Nat} (ha : a < P) (hb : b < P) : PureAt (lN g h) 104 [PT g, NV a, NV b] (NV (mm a b)) :=
  pureAt_of Try.func104 rfl 8 [(PT g, .at_ 0), (NV a, .no), (NV b, .no)] (lN g h) [mc 103 [PT h, NV a, NV b] [(1, montE h P P2 Pi)] (.tuple #[NV (mm a b), I 0])] _ rfl
    (fun _ => ⟨mc_ok (f103_ok montP ha hb), trivial⟩) (fun γ => by kernel_rfl)
/-- (plane).add -/
theorem f106_raw {g h a b s o d c t r : Nat} (h1 : Pure 117 [NV a, NV b] (.tuple #[NV s, U o])) (h2 : Pure 118 [NV s, NV P] (.tuple #[NV d, U c])) (h3 : (.int .u64 (bits .or .u64 (o : Nat) (IntKind.u64.wrap (1 - ((c : Nat) : Int)))) : Value) = U t) (h4 : Pure 119 [U t, NV d, NV s] (NV r)) :
    PureAt (lN g h) 106 [PT g, NV a, NV b] (NV r) :=
  pureAt_of Try.func106 rfl 8 [(PT g, .at_ 0), (NV a, .no), (NV b, .no)] (lN g h) [pc 117 [NV a, NV b] (.tuple #[NV s, U o]), pc 118 [NV s, NV P] (.tuple #[NV d, U c]), rn 29 (.int .u64 (bits .or .u64 (o : Nat) (IntKind.u64.wrap (1 - ((c : Nat) : Int))))) (U t), pc 119 [U t, NV d, NV s] (NV r)] _ rfl
    (fun _ => ⟨pc_ok h1, pc_ok h2, rn_ok h3, pc_ok h4, trivial⟩) (fun γ => by kernel_rfl)
theorem f106_ok {g h a b : Nat} (ha : a < P) (hb : b < P) : PureAt (lN g h) 106 [PT g, NV a, NV b] (NV (fadd a b)) := by
  have hP := P_R
  obtain ⟨t, h1, h2⟩ := add_arith P_R ha hb
  refine f106_raw (f117_ok (by omega) (by omega)) (f118_ok (Nat.mod_lt _ (by decide)) P_R) (or_sel h1) (t := t) ?_
  unfold fadd
  rcases h2 with ⟨rfl, e⟩ | ⟨rfl, e⟩
  · rw [e]; exact f119_one _ _
  · rw [e]; exact f119_zero _ _
/-- (plane).sub -/
theorem f105_raw {g h a b s o d c r : Nat} (h1 : Pure 118 [NV a, NV b] (.tuple #[NV d, U c])) (h2 : Pure 117 [NV d, NV P] (.tuple #[NV s, U o])) (h4 : Pure 119 [U c, NV s, NV d] (NV r)) :
    PureAt (lN g h) 105 [PT g, NV a, NV b] (NV r) :=
  pureAt_of Try.func105 rfl 8 [(PT g, .at_ 0), (NV a, .no), (NV b, .no)] (lN g h) [pc 118 [NV a, NV b] (.tuple #[NV d, U c]), pc 117 [NV d, NV P] (.tuple #[NV s, U o]), pc 119 [U c, NV s, NV d] (NV r)] _ rfl
    (fun _ => ⟨pc_ok h1, pc_ok h2, pc_ok h4, trivial⟩) (fun γ => by kernel_rfl)
theorem f105_ok {g h a b : Nat} (ha : a < P) (hb : b < P) : PureAt (lN g h) 105 [PT g, NV a, NV b] (NV (fsub a b)) := by
  have hP := P_R
  have h1 := f118_ok (a := a) (b := b) (by omega) (by omega)
  have h2 := f117_ok (a := (a + R - b) % R) (b := P) (Nat.mod_lt _ (by decide)) P_R
  unfold fsub
  rcases sub_arith P_R ha hb with ⟨hl, e⟩ | ⟨hl, e⟩
  · rw [if_pos hl] at h1
    rw [e]
    exact f105_raw h1 h2 (f119_one _ _)
  · rw [if_neg hl] at h1
    rw [e]
    exact f105_raw h1 h2 (f119_zero _ _)

/-- (plane).in -/
theorem f59_inf {g h x y : Nat} : PureAt (lN g h) 59 [PT g, PV x y true] (JV 0 0 0) :=
  pureAt_of Try.func59 rfl 8 [(PT g, .at_ 0), (PV x y true, .no)] (lN g h) [] _ rfl (fun _ => trivial) (fun γ => by kernel_rfl)
theorem f59_aff {g h x y : Nat} (hx : x < P) (hy : y < P) : PureAt (lN g h) 59 [PT g, PV x y false] (JV (x * R % P) (y * R % P) one) :=
  pureAt_of Try.func59 rfl 8 [(PT g, .at_ 0), (PV x y false, .no)] (lN g h) [mc 100 [PT h, NV x] [(1, montE h P P2 Pi)] (.tuple #[NV (x * R % P), I 0]), mc 100 [PT h, NV y] [(1, montE h P P2 Pi)] (.tuple #[NV (y * R % P), I 0])] _ rfl
    (fun _ => ⟨mc_ok (f100_ok montP hx), mc_ok (f100_ok montP hy), trivial⟩) (fun γ => by kernel_rfl)

/-- (plane).out -/
theorem f57_inf {g h x y : Nat} : PureAt (lN g h) 57 [PT g, JV x y 0] (PV 0 0 true) :=
  pureAt_of Try.func57 rfl 8 [(PT g, .at_ 0), (JV x y 0, .no)] (lN g h) [eqB 21 0 0 true] _ rfl (fun _ => ⟨eqB_ok (by decide) (by decide) rfl, trivial⟩) (fun γ => by kernel_rfl)
def inv (a : Nat) : Nat := a ^ (P - 2) % P
theorem inv_lt (a : Nat) : inv a < P := Nat.mod_lt _ P_pos
theorem f57_aff {g h x y z : Nat} (hx : x < P) (hy : y < P) (hz : z < P) (h0 : z ≠ 0) (h1 : redc P z ≠ 0) :
    PureAt (lN g h) 57 [PT g, JV x y z] (PV (mm x (fmul (inv (redc P z)) (inv (redc P z)))) (mm y (fmul (fmul (inv (redc P z)) (inv (redc P z))) (inv (redc P z)))) false) :=
  pureAt_of Try.func57 rfl 16 [(PT g, .at_ 0), (JV x y z, .no)] (lN g h) [eqB 21 z 0 false, bc 4, mc 101 [PT h, NV z] [(1, montE h P P2 Pi)] (.tuple #[NV (redc P z), I 0]), oc 102 4 [NV (redc P z)] (.tuple #[NV (inv (redc P z)), I 0]),
      oc 31 4 [NV (inv (redc P z)), NV (inv (redc P z))] (.tuple #[NV (fmul (inv (redc P z)) (inv (redc P z))), I 0]), oc 31 4 [NV (fmul (inv (redc P z)) (inv (redc P z))), NV (inv (redc P z))] (.tuple #[NV (fmul (fmul (inv (redc P z)) (inv (redc P z))) (inv (redc P z))), I 0]),
      mc 103 [PT h, NV x, NV (fmul (inv (redc P z)) (inv (redc P z)))] [(1, montE h P P2 Pi)] (.tuple #[NV (mm x (fmul (inv (redc P z)) (inv (redc P z)))), I 0]),
      mc 103 [PT h, NV y, NV (fmul (fmul (inv (redc P z)) (inv (redc P z))) (inv (redc P z)))] [(1, montE h P P2 Pi)] (.tuple #[NV (mm y (fmul (fmul (inv (redc P z)) (inv (redc P z))) (inv (redc P z)))), I 0])] _ rfl
    (fun _ => ⟨eqB_ok (Nat.lt_trans hz P_R) (by decide) (decide_eq_false h0), bc_ok, mc_ok (f101_ok montP hz), oc_ok fun _ _ => f102_ok montP (redc_lt (by decide)) h1 (by decide),
      oc_ok fun _ _ => f31_ok montP (inv_lt _) (inv_lt _), oc_ok fun _ _ => f31_ok montP (fmul_lt _ _) (inv_lt _), mc_ok (f103_ok montP hx (fmul_lt _ _)), mc_ok (f103_ok montP hy (fmul_lt _ _)), trivial⟩) (fun γ => by kernel_rfl)

end Go.Proofs.Ytildcmggcbdhpaa

namespace Go.Proofs.Ytildcmggcbdhpaa
open Go.Ex Go.RowKit Lim

def mR (g h a b : Nat) : Rec := mc 104 [PT g, NV a, NV b] (lNi g h) (NV (mm a b))
def aR (g h a b : Nat) : Rec := mc 106 [PT g, NV a, NV b] (lNi g h) (NV (fadd a b))
def sR (g h a b : Nat) : Rec := mc 105 [PT g, NV a, NV b] (lNi g h) (NV (fsub a b))
theorem mR_ok {w : World} {g h a b : Nat} (ha : a < P) (hb : b < P) : (mR g h a b).Ok Try.prog w := mc_ok (f104_ok ha hb)
theorem aR_ok {w : World} {g h a b : Nat} (ha : a < P) (hb : b < P) : (aR g h a b).Ok Try.prog w := mc_ok (f106_ok ha hb)
theorem sR_ok {w : World} {g h a b : Nat} (ha : a < P) (hb : b < P) : (sR g h a b).Ok Try.prog w := mc_ok (f105_ok ha hb)

def dS (x y : Nat) : Nat := fadd (fadd (mm x (mm y y)) (mm x (mm y y))) (fadd (mm x (mm y y)) (mm x (mm y y)))
def dM (x : Nat) : Nat := fadd (fadd (mm x x) (mm x x)) (mm x x)
def dX (x y : Nat) : Nat := fsub (mm (dM x) (dM x)) (fadd (dS x y) (dS x y))
def dQ (y : Nat) : Nat := fadd (fadd (mm (mm y y) (mm y y)) (mm (mm y y) (mm y y))) (fadd (mm (mm y y) (mm y y)) (mm (mm y y) (mm y y)))
def dY (x y : Nat) : Nat := fsub (mm (dM x) (fsub (dS x y) (dX x y))) (fadd (dQ y) (dQ y))
def dZ (y z : Nat) : Nat := fadd (mm y z) (mm y z)

/-- (plane).twice -/
theorem f74_zero {g h x y : Nat} : PureAt (lN g h) 74 [PT g, JV x y 0] (JV 0 0 0) :=
  pureAt_of Try.func74 rfl 16 [(PT g, .at_ 0), (JV x y 0, .no)] (lN g h) [eqB 16 0 0 true] _ rfl (fun _ => ⟨eqB_ok (by decide) (by decide) rfl, trivial⟩) (fun γ => by kernel_rfl)
theorem f74_y {g h x z : Nat} (hz : z < P) (h0 : z ≠ 0) : PureAt (lN g h) 74 [PT g, JV x 0 z] (JV 0 0 0) :=
  pureAt_of Try.func74 rfl 16 [(PT g, .at_ 0), (JV x 0 z, .no)] (lN g h) [eqB 16 z 0 false, eqB 21 0 0 true] _ rfl (fun _ => ⟨eqB_ok (Nat.lt_trans hz P_R) (by decide) (decide_eq_false h0), eqB_ok (by decide) (by decide) rfl, trivial⟩) (fun γ => by kernel_rfl)
theorem f74_ok {g h x y z : Nat} (hx : x < P) (hy : y < P) (hz : z < P) (h0 : z ≠ 0) (h1 : y ≠ 0) : PureAt (lN g h) 74 [PT g, JV x y z] (JV (dX x y) (dY x y) (dZ y z)) :=
  pureAt_of Try.func74 rfl 16 [(PT g, .at_ 0), (JV x y z, .no)] (lN g h) [eqB 16 z 0 false, eqB 21 y 0 false, mR g h y y, mR g h x (mm y y), aR g h (mm x (mm y y)) (mm x (mm y y)),
      aR g h (fadd (mm x (mm y y)) (mm x (mm y y))) (fadd (mm x (mm y y)) (mm x (mm y y))), mR g h x x, aR g h (mm x x) (mm x x), aR g h (fadd (mm x x) (mm x x)) (mm x x),
      mR g h (dM x) (dM x), aR g h (dS x y) (dS x y), sR g h (mm (dM x) (dM x)) (fadd (dS x y) (dS x y)), mR g h (mm y y) (mm y y), aR g h (mm (mm y y) (mm y y)) (mm (mm y y) (mm y y)),
      aR g h (fadd (mm (mm y y) (mm y y)) (mm (mm y y) (mm y y))) (fadd (mm (mm y y) (mm y y)) (mm (mm y y) (mm y y))), sR g h (dS x y) (dX x y), mR g h (dM x) (fsub (dS x y) (dX x y)), aR g h (dQ y) (dQ y),
      sR g h (mm (dM x) (fsub (dS x y) (dX x y))) (fadd (dQ y) (dQ y)), mR g h y z, aR g h (mm y z) (mm y z)] _ rfl
    (fun _ => ⟨eqB_ok (Nat.lt_trans hz P_R) (by decide) (decide_eq_false h0), eqB_ok (Nat.lt_trans hy P_R) (by decide) (decide_eq_false h1), mR_ok hy hy, mR_ok hx (mm_lt _ _), aR_ok (mm_lt _ _) (mm_lt _ _), aR_ok (fadd_lt _ _) (fadd_lt _ _),
      mR_ok hx hx, aR_ok (mm_lt _ _) (mm_lt _ _), aR_ok (fadd_lt _ _) (mm_lt _ _), mR_ok (fadd_lt _ _) (fadd_lt _ _), aR_ok (fadd_lt _ _) (fadd_lt _ _), sR_ok (mm_lt _ _) (fadd_lt _ _), mR_ok (mm_lt _ _) (mm_lt _ _), aR_ok (mm_lt _ _) (mm_lt _ _),
      aR_ok (fadd_lt _ _) (fadd_lt _ _), sR_ok (fadd_lt _ _) (fsub_lt _ _), mR_ok (fadd_lt _ _) (fsub_lt _ _), aR_ok (fadd_lt _ _) (fadd_lt _ _), sR_ok (mm_lt _ _) (fadd_lt _ _), mR_ok hy hz, aR_ok (mm_lt _ _) (mm_lt _ _), trivial⟩) (fun γ => by kernel_rfl)

/-- a point in the plane -/
structure J where
  x : Nat
  y : Nat
  z : Nat
def J.v (p : J) : Value := JV p.x p.y p.z
def J.lt (p : J) : Prop := p.x < P ∧ p.y < P ∧ p.z < P
def dbl (p : J) : J := if p.z = 0 then ⟨0, 0, 0⟩ else if p.y = 0 then ⟨0, 0, 0⟩ else ⟨dX p.x p.y, dY p.x p.y, dZ p.y p.z⟩
theorem dbl_lt (p : J) : (dbl p).lt := by
  unfold dbl
  split
  · exact ⟨P_pos, P_pos, P_pos⟩
  · split
    · exact ⟨P_pos, P_pos, P_pos⟩
    · exact ⟨fsub_lt _ _, fsub_lt _ _, fadd_lt _ _⟩
theorem f74_all {g h : Nat} {p : J} (hp : p.lt) : PureAt (lN g h) 74 [PT g, p.v] (dbl p).v := by
  obtain ⟨x, y, z⟩ := p
  obtain ⟨hx, hy, hz⟩ := hp
  unfold dbl
  by_cases h0 : z = 0
  · subst h0; exact f74_zero
  · by_cases h1 : y = 0
    · subst h1
      simp only [if_neg h0]
      exact f74_y hz h0
    · simp only [if_neg h0, if_neg h1]
      exact f74_ok hx hy hz h0 h1

def pH (a b : J) : Nat := fsub (mm b.x (mm a.z a.z)) (mm a.x (mm b.z b.z))
def pR (a b : J) : Nat := fsub (mm b.y (mm (mm a.z a.z) a.z)) (mm a.y (mm (mm b.z b.z) b.z))
def pV (a b : J) : Nat := mm (mm a.x (mm b.z b.z)) (mm (pH a b) (pH a b))
def pX (a b : J) : Nat := fsub (fsub (mm (pR a b) (pR a b)) (mm (mm (pH a b) (pH a b)) (pH a b))) (fadd (pV a b) (pV a b))
def pY (a b : J) : Nat := fsub (mm (pR a b) (fsub (pV a b) (pX a b))) (mm (mm a.y (mm (mm b.z b.z) b.z)) (mm (mm (pH a b) (pH a b)) (pH a b)))
def pZ (a b : J) : Nat := mm (pH a b) (mm a.z b.z)
def plus (a b : J) : J := if a.z = 0 then b else if b.z = 0 then a else if pH a b = 0 then (if pR a b = 0 then dbl a else ⟨0, 0, 0⟩) else ⟨pX a b, pY a b, pZ a b⟩
theorem plus_lt {a b : J} (ha : a.lt) (hb : b.lt) : (plus a b).lt := by
  unfold plus
  split
  · exact hb
  · split
    · exact ha
    · split
      · split
        · exact dbl_lt a
        · exact ⟨P_pos, P_pos, P_pos⟩
      · exact ⟨fsub_lt _ _, fsub_lt _ _, mm_lt _ _⟩

def headRecs (g h : Nat) (a b : J) : List Rec := [eqB 24 a.z 0 false, eqB 30 b.z 0 false, mR g h a.z a.z, mR g h b.z b.z, mR g h a.x (mm b.z b.z), mR g h b.x (mm a.z a.z), mR g h (mm b.z b.z) b.z, mR g h a.y (mm (mm b.z b.z) b.z),
  mR g h (mm a.z a.z) a.z, mR g h b.y (mm (mm a.z a.z) a.z), sR g h (mm b.x (mm a.z a.z)) (mm a.x (mm b.z b.z)), sR g h (mm b.y (mm (mm a.z a.z) a.z)) (mm a.y (mm (mm b.z b.z) b.z))]
theorem headRecs_ok {w : World} {g h : Nat} {a b : J} (ha : a.lt) (hb : b.lt) (h0 : a.z ≠ 0) (h1 : b.z ≠ 0) : RecsOk w (headRecs g h a b) :=
  ⟨eqB_ok (Nat.lt_trans ha.2.2 P_R) (by decide) (decide_eq_false h0), eqB_ok (Nat.lt_trans hb.2.2 P_R) (by decide) (decide_eq_false h1), mR_ok ha.2.2 ha.2.2, mR_ok hb.2.2 hb.2.2, mR_ok ha.1 (mm_lt _ _), mR_ok hb.1 (mm_lt _ _), mR_ok (mm_lt _ _) hb.2.2, mR_ok ha.2.1 (mm_lt _ _),
    mR_ok (mm_lt _ _) ha.2.2, mR_ok hb.2.1 (mm_lt _ _), sR_ok (mm_lt _ _) (mm_lt _ _), sR_ok (mm_lt _ _) (mm_lt _ _), trivial⟩

/-- (plane).plus -/
theorem f58_ok {g h : Nat} {a b : J} (ha : a.lt) (hb : b.lt) : PureAt (lN g h) 58 [PT g, a.v, b.v] (plus a b).v := by
  have hlt := P_R
  by_cases h0 : a.z = 0
  · have e : plus a b = b := by unfold plus; rw [if_pos h0]
    rw [e]
    exact pureAt_of Try.func58 rfl 24 [(PT g, .at_ 0), (a.v, .no), (b.v, .no)] (lN g h) [eqB 24 a.z 0 true] _ rfl (fun _ => ⟨eqB_ok (Nat.lt_trans ha.2.2 P_R) (by decide) (decide_eq_true h0), trivial⟩) (fun γ => by kernel_rfl)
  · by_cases h1 : b.z = 0
    · have e : plus a b = a := by unfold plus; rw [if_neg h0, if_pos h1]
      rw [e]
      exact pureAt_of Try.func58 rfl 24 [(PT g, .at_ 0), (a.v, .no), (b.v, .no)] (lN g h) [eqB 24 a.z 0 false, eqB 30 b.z 0 true] _ rfl (fun _ => ⟨eqB_ok (Nat.lt_trans ha.2.2 P_R) (by decide) (decide_eq_false h0), eqB_ok (Nat.lt_trans hb.2.2 P_R) (by decide) (decide_eq_true h1), trivial⟩) (fun γ => by kernel_rfl)
    · by_cases h2 : pH a b = 0
      · by_cases h3 : pR a b = 0
        · have e : plus a b = dbl a := by unfold plus; rw [if_neg h0, if_neg h1, if_pos h2, if_pos h3]
          rw [e]
          exact pureAt_of Try.func58 rfl 24 [(PT g, .at_ 0), (a.v, .no), (b.v, .no)] (lN g h) (headRecs g h a b ++ [eqB 83 (pH a b) 0 true, eqB 87 (pR a b) 0 true, mc 74 [PT g, a.v] (lNi g h) (JV (dbl a).x (dbl a).y (dbl a).z)]) _ rfl
            (fun _ => (headRecs_ok ha hb h0 h1).append ⟨eqB_ok (Nat.lt_trans (fsub_lt _ _) P_R) (by decide) (decide_eq_true h2), eqB_ok (Nat.lt_trans (fsub_lt _ _) P_R) (by decide) (decide_eq_true h3), mc_ok (f74_all ha), trivial⟩) (fun γ => by kernel_rfl)
        · have e : plus a b = ⟨0, 0, 0⟩ := by unfold plus; rw [if_neg h0, if_neg h1, if_pos h2, if_neg h3]
          rw [e]
          exact pureAt_of Try.func58 rfl 24 [(PT g, .at_ 0), (a.v, .no), (b.v, .no)] (lN g h) (headRecs g h a b ++ [eqB 83 (pH a b) 0 true, eqB 87 (pR a b) 0 false, eqB 95 (pH a b) 0 true]) _ rfl
            (fun _ => (headRecs_ok ha hb h0 h1).append ⟨eqB_ok (Nat.lt_trans (fsub_lt _ _) P_R) (by decide) (decide_eq_true h2), eqB_ok (Nat.lt_trans (fsub_lt _ _) P_R) (by decide) (decide_eq_false h3), eqB_ok (Nat.lt_trans (fsub_lt _ _) P_R) (by decide) (decide_eq_true h2), trivial⟩) (fun γ => by kernel_rfl)
      · have e : plus a b = ⟨pX a b, pY a b, pZ a b⟩ := by unfold plus; rw [if_neg h0, if_neg h1, if_neg h2]
        rw [e]
        exact pureAt_of Try.func58 rfl 24 [(PT g, .at_ 0), (a.v, .no), (b.v, .no)] (lN g h) (headRecs g h a b ++ [eqB 83 (pH a b) 0 false, eqB 95 (pH a b) 0 false, mR g h (pH a b) (pH a b), mR g h (mm (pH a b) (pH a b)) (pH a b), mR g h (mm a.x (mm b.z b.z)) (mm (pH a b) (pH a b)),
              mR g h (pR a b) (pR a b), sR g h (mm (pR a b) (pR a b)) (mm (mm (pH a b) (pH a b)) (pH a b)), aR g h (pV a b) (pV a b), sR g h (fsub (mm (pR a b) (pR a b)) (mm (mm (pH a b) (pH a b)) (pH a b))) (fadd (pV a b) (pV a b)),
              sR g h (pV a b) (pX a b), mR g h (pR a b) (fsub (pV a b) (pX a b)), mR g h (mm a.y (mm (mm b.z b.z) b.z)) (mm (mm (pH a b) (pH a b)) (pH a b)), sR g h (mm (pR a b) (fsub (pV a b) (pX a b))) (mm (mm a.y (mm (mm b.z b.z) b.z)) (mm (mm (pH a b) (pH a b)) (pH a b))),
              mR g h a.z b.z, mR g h (pH a b) (mm a.z b.z)]) _ rfl
          (fun _ => (headRecs_ok ha hb h0 h1).append ⟨eqB_ok (Nat.lt_trans (fsub_lt _ _) P_R) (by decide) (decide_eq_false h2), eqB_ok (Nat.lt_trans (fsub_lt _ _) P_R) (by decide) (decide_eq_false h2), mR_ok (fsub_lt _ _) (fsub_lt _ _), mR_ok (mm_lt _ _) (fsub_lt _ _), mR_ok (mm_lt _ _) (mm_lt _ _),
              mR_ok (fsub_lt _ _) (fsub_lt _ _), sR_ok (mm_lt _ _) (mm_lt _ _), aR_ok (mm_lt _ _) (mm_lt _ _), sR_ok (fsub_lt _ _) (fadd_lt _ _), sR_ok (mm_lt _ _) (fsub_lt _ _), mR_ok (fsub_lt _ _) (fsub_lt _ _), mR_ok (mm_lt _ _) (mm_lt _ _), sR_ok (mm_lt _ _) (mm_lt _ _),
              mR_ok ha.2.2 hb.2.2, mR_ok (fsub_lt _ _) (mm_lt _ _), trivial⟩) (fun γ => by kernel_rfl)

end Go.Proofs.Ytildcmggcbdhpaa
