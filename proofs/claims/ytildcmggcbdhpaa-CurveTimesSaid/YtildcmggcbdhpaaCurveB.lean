/- Package curve: the plane's sums. No conditions but that numbers are below the modulus. -/
import Derived.Test.YtildcmggcbdhpaaCurveA
namespace Go.Proofs.Ytildcmggcbdhpaa
open Go.Ex Go.RowKit Lim

/-- the plane's one -/
def one : Nat := 1 * R % P
def planeE (g h : Nat) (tg : List Tag) (own : Bool) : Ent := ⟨g, [PT h, U (l0 P), U (l1 P), U (l2 P), U (l3 P), U (l0 one), U (l1 one), U (l2 one), U (l3 one)], tg, 143, own⟩
def planeN (δ : Nat → Nat) : List Ent := [montO (δ 0) P P2 Pi, planeE (δ 1) (δ 0) [] true]

/-- curve.newPlane -/
theorem f56_ok : Makes 56 [] 2 twoV planeN := fun w =>
  makes_at Try.func56 rfl 8 [] [] [bc 0, lc 99 (fun σ => [PT (σ 1)]) (fun σ => [(1, fieldE (σ 1) (σ 0) P rt [] true)]) (NV P), nc 77 [NV P] 1 newV (fun δ => [montO (δ 0) P P2 Pi]) (.tup [.at_ 3, .no]),
      lc 100 (fun σ => [PT (σ 3), NV 1]) (fun σ => [(3, montO (σ 3) P P2 Pi)]) (.tuple #[NV one, I 0])] 2 (fun q => 2 * q + 3) [3, 5] twoV planeN w (fun e he => by cases he)
    (fun _ => ⟨bc_ok, lc_ok fun σ => (f99_ok (σ 1) (σ 0) P rt).of fun w hw e he => by
        simp only [List.mem_singleton] at he
        subst he
        exact hw (fieldE (σ 1) (σ 0) P rt [] true) (by simp), nc_ok f77_P, lc_ok fun σ => (f100_ok (g := σ 3) montP (a := 1) (by decide)).of fun w hw e he => by
        simp only [List.mem_singleton] at he
        subst he
        exact hw (montO (σ 3) P P2 Pi) (by simp), trivial⟩) (by decide) (fun _ => rfl) (fun δ e he => by simp [planeN] at he; rcases he with rfl | rfl <;> rfl) (fun γ => by kernel_rfl)

def lTg : List Tag := [.at_ 1]
def lN (g h : Nat) : List Ent := [planeE g h lTg false, montE h P P2 Pi]
def lNi (g h : Nat) : List (Nat × Ent) := [(0, planeE g h lTg false), (1, montE h P P2 Pi)]
def mm (a b : Nat) : Nat := redc P (a * b)
theorem mm_lt (a b : Nat) : mm a b < P := redc_lt (by decide)

/-- (plane).mul -/
theorem f104_ok {g h a b : Nat} (ha : a < P) (hb : b < P) : PureAt (lN g h) 104 [PT g, NV a, NV b] (NV (mm a b)) :=
  pureAt_of Try.func104 rfl 8 [(PT g, .at_ 0), (NV a, .no), (NV b, .no)] (lN g h) [mc 103 [PT h, NV a, NV b] [(1, montE h P P2 Pi)] (.tuple #[NV (mm a b), I 0])] _ rfl
    (fun _ => ⟨mc_ok (f103_ok montP ha hb), trivial⟩) (fun γ => by kernel_rfl)
/-- (plane).add -/
theorem f106_raw {g h a b s o d c t r : Nat} (h1 : Pure 117 [NV a, NV b] (.tuple #[NV s, U o])) (h2 : Pure 118 [NV s, NV P] (.tuple #[NV d, U c])) (h3 : (.int .u64 (bits .or .u64 (o : Nat) (IntKind.u64.wrap (1 - ((c : Nat) : Int)))) : Value) = U t) (h4 : Pure 119 [U t, NV d, NV s] (NV r)) :
    PureAt (lN g h) 106 [PT g, NV a, NV b] (NV r) :=
  pureAt_of Try.func106 rfl 8 [(PT g, .at_ 0), (NV a, .no), (NV b, .no)] (lN g h) [pc 117 [NV a, NV b] (.tuple #[NV s, U o]), pc 118 [NV s, NV P] (.tuple #[NV d, U c]), rn 29 (.int .u64 (bits .or .u64 (o : Nat) (IntKind.u64.wrap (1 - ((c : Nat) : Int))))) (U t), pc 119 [U t, NV d, NV s] (NV r)] _ rfl
    (fun _ => ⟨pc_ok h1, pc_ok h2, rn_ok h3, pc_ok h4, trivial⟩) (fun γ => by kernel_rfl)
theorem f106_ok {g h a b : Nat} (ha : a < P) (hb : b < P) : PureAt (lN g h) 106 [PT g, NV a, NV b] (NV (fadd a b)) := by
  have hP := P_R
  obtain ⟨t, h1, h2⟩ := add_arith P_R ha hb
  refine f106_raw (f117_ok (by omega) (by omega)) (f118_ok (Nat.mod_lt _ (by decide)) P_R) (or_sel h1) (t := t) ?_
  unfold fadd
  rcases h2 with ⟨rfl, e⟩ | ⟨rfl, e⟩
  · rw [e]; exact f119_one _ _
  · rw [e]; exact f119_zero _ _
/-- (plane).sub -/
theorem f105_raw {g h a b s o d c r : Nat} (h1 : Pure 118 [NV a, NV b] (.tuple #[NV d, U c])) (h2 : Pure 117 [NV d, NV P] (.tuple #[NV s, U o])) (h4 : Pure 119 [U c, NV s, NV d] (NV r)) :
    PureAt (lN g h) 105 [PT g, NV a, NV b] (NV r) :=
  pureAt_of Try.func105 rfl 8 [(PT g, .at_ 0), (NV a, .no), (NV b, .no)] (lN g h) [pc 118 [NV a, NV b] (.tuple #[NV d, U c]), pc 117 [NV d, NV P] (.tuple #[NV s, U o]), pc 119 [U c, NV s, NV d] (NV r)] _ rfl
    (fun _ => ⟨pc_ok h1, pc_ok h2, pc_ok h4, trivial⟩) (fun γ => by kernel_rfl)
theorem f105_ok {g h a b : Nat} (ha : a < P) (hb : b < P) : PureAt (lN g h) 105 [PT g, NV a, NV b] (NV (fsub a b)) := by
  have hP := P_R
  have h1 := f118_ok (a := a) (b := b) (by omega) (by omega)
  have h2 := f117_ok (a := (a + R - b) % R) (b := P) (Nat.mod_lt _ (by decide)) P_R
  unfold fsub
  rcases sub_arith P_R ha hb with ⟨hl, e⟩ | ⟨hl, e⟩
  · rw [if_pos hl] at h1
    rw [e]
    exact f105_raw h1 h2 (f119_one _ _)
  · rw [if_neg hl] at h1
    rw [e]
    exact f105_raw h1 h2 (f119_zero _ _)

/-- (plane).in -/
theorem f59_inf {g h x y : Nat} : PureAt (lN g h) 59 [PT g, PV x y true] (JV 0 0 0) :=
  pureAt_of Try.func59 rfl 8 [(PT g, .at_ 0), (PV x y true, .no)] (lN g h) [] _ rfl (fun _ => trivial) (fun γ => by kernel_rfl)
theorem f59_aff {g h x y : Nat} (hx : x < P) (hy : y < P) : PureAt (lN g h) 59 [PT g, PV x y false] (JV (x * R % P) (y * R % P) one) :=
  pureAt_of Try.func59 rfl 8 [(PT g, .at_ 0), (PV x y false, .no)] (lN g h) [mc 100 [PT h, NV x] [(1, montE h P P2 Pi)] (.tuple #[NV (x * R % P), I 0]), mc 100 [PT h, NV y] [(1, montE h P P2 Pi)] (.tuple #[NV (y * R % P), I 0])] _ rfl
    (fun _ => ⟨mc_ok (f100_ok montP hx), mc_ok (f100_ok montP hy), trivial⟩) (fun γ => by kernel_rfl)

/-- (plane).out -/
theorem f57_inf {g h x y : Nat} : PureAt (lN g h) 57 [PT g, JV x y 0] (PV 0 0 true) :=
  pureAt_of Try.func57 rfl 8 [(PT g, .at_ 0), (JV x y 0, .no)] (lN g h) [eqB 21 0 0 true] _ rfl (fun _ => ⟨eqB_ok (by decide) (by decide) rfl, trivial⟩) (fun γ => by kernel_rfl)
def inv (a : Nat) : Nat := a ^ (P - 2) % P
theorem inv_lt (a : Nat) : inv a < P := Nat.mod_lt _ P_pos
theorem f57_aff {g h x y z : Nat} (hx : x < P) (hy : y < P) (hz : z < P) (h0 : z ≠ 0) (h1 : redc P z ≠ 0) :
    PureAt (lN g h) 57 [PT g, JV x y z] (PV (mm x (fmul (inv (redc P z)) (inv (redc P z)))) (mm y (fmul (fmul (inv (redc P z)) (inv (redc P z))) (inv (redc P z)))) false) :=
  pureAt_of Try.func57 rfl 16 [(PT g, .at_ 0), (JV x y z, .no)] (lN g h) [eqB 21 z 0 false, bc 4, mc 101 [PT h, NV z] [(1, montE h P P2 Pi)] (.tuple #[NV (redc P z), I 0]), oc 102 4 [NV (redc P z)] (.tuple #[NV (inv (redc P z)), I 0]),
      oc 31 4 [NV (inv (redc P z)), NV (inv (redc P z))] (.tuple #[NV (fmul (inv (redc P z)) (inv (redc P z))), I 0]), oc 31 4 [NV (fmul (inv (redc P z)) (inv (redc P z))), NV (inv (redc P z))] (.tuple #[NV (fmul (fmul (inv (redc P z)) (inv (redc P z))) (inv (redc P z))), I 0]),
      mc 103 [PT h, NV x, NV (fmul (inv (redc P z)) (inv (redc P z)))] [(1, montE h P P2 Pi)] (.tuple #[NV (mm x (fmul (inv (redc P z)) (inv (redc P z)))), I 0]),
      mc 103 [PT h, NV y, NV (fmul (fmul (inv (redc P z)) (inv (redc P z))) (inv (redc P z)))] [(1, montE h P P2 Pi)] (.tuple #[NV (mm y (fmul (fmul (inv (redc P z)) (inv (redc P z))) (inv (redc P z)))), I 0])] _ rfl
    (fun _ => ⟨eqB_ok (Nat.lt_trans hz P_R) (by decide) (decide_eq_false h0), bc_ok, mc_ok (f101_ok montP hz), oc_ok fun _ _ => f102_ok montP (redc_lt (by decide)) h1 (by decide),
      oc_ok fun _ _ => f31_ok montP (inv_lt _) (inv_lt _), oc_ok fun _ _ => f31_ok montP (fmul_lt _ _) (inv_lt _), mc_ok (f103_ok montP hx (fmul_lt _ _)), mc_ok (f103_ok montP hy (fmul_lt _ _)), trivial⟩) (fun γ => by kernel_rfl)

end Go.Proofs.Ytildcmggcbdhpaa
