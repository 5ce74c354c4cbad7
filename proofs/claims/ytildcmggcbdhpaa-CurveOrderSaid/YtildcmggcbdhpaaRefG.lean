/- The document's answers, layer 3: points and their sums. No conditions but that numbers are below the modulus. -/
import Derived.Test.YtildcmggcbdhpaaRefF
namespace Go.Proofs.Ytildcmggcbdhpaa
open Go.Ex Go.RowKit Lim

def fM (a b : Nat) : Rec := pc 66 [FV P CP, NV a, NV b] (NV (fmul a b))
def fA (a b : Nat) : Rec := pc 109 [FV P CP, NV a, NV b] (NV (fadd a b))
def fS (a b : Nat) : Rec := pc 70 [FV P CP, NV a, NV b] (NV (fsub a b))
def fB : Rec := pc 65 [] (FV P CP)
theorem fM_ok {w : World} {a b : Nat} (ha : a < R) (hb : b < R) : (fM a b).Ok Try.prog w := pc_ok (f66_ok fcP ha hb)
theorem fA_ok {w : World} {a b : Nat} (ha : a < P) (hb : b < P) : (fA a b).Ok Try.prog w := pc_ok (f109_ok P_R ha hb)
theorem fS_ok {w : World} {a b : Nat} (ha : a < P) (hb : b < P) : (fS a b).Ok Try.prog w := pc_ok (f70_ok P_R ha hb)
theorem fB_ok {w : World} : fB.Ok Try.prog w := pc_ok f65_ok
theorem ltR {a : Nat} (h : a < P) : a < R := Nat.lt_trans h P_R
theorem mR' (a b : Nat) : fmul a b < R := ltR (fmul_lt a b)
theorem aR' (a b : Nat) : fadd a b < R := ltR (fadd_lt a b)
theorem sR' (a b : Nat) : fsub a b < R := ltR (fsub_lt a b)
/-- is it 0? -/
def zB (a : Nat) (q : Bool) : Rec := pc 64 [NV a] (.bool q)
theorem zB_ok {w : World} {a : Nat} {q : Bool} (ha : a < R) (hq : decide (a = 0) = q) : (zB a q).Ok Try.prog w := pc_ok (by rw [← hq]; exact f64_ok ha)

/-- wardmoteref03.G -/
theorem f72_ok : Pure 72 [] (PV GX GY false) := pure_of Try.func72 rfl 8 [] [] _ (fun _ => trivial) (fun γ => by kernel_rfl)

/-- wardmoteref03.cubic -/
theorem f67_ok {x : Nat} (hx : x < R) : Pure 67 [NV x] (NV (cub x)) :=
  pure_of Try.func67 rfl 8 [NV x] [fB, fM x x, fM (fmul x x) x, fA (fmul (fmul x x) x) 7] _ (fun _ => ⟨fB_ok, fM_ok hx hx, fM_ok (mR' _ _) hx, fA_ok (fmul_lt _ _) (by decide), trivial⟩) (fun γ => by kernel_rfl)

/-- wardmoteref03.Is -/
theorem f20_inf {x y : Nat} (hx : x < R) (hy : y < R) : Pure 20 [PV x y true] (.bool (isPt x y true)) := by
  by_cases h : x = 0
  · have : isPt x y true = decide (y = 0) := by simp [isPt, h]
    rw [this]
    exact pure_of Try.func20 rfl 8 [PV x y true] [zB x true, zB y (decide (y = 0))] _ (fun _ => ⟨zB_ok hx (decide_eq_true h), zB_ok hy rfl, trivial⟩) (fun γ => by kernel_rfl)
  · have : isPt x y true = false := by simp [isPt, h]
    rw [this]
    exact pure_of Try.func20 rfl 8 [PV x y true] [zB x false] _ (fun _ => ⟨zB_ok hx (decide_eq_false h), trivial⟩) (fun γ => by kernel_rfl)
theorem f20_aff {x y : Nat} (hx : x < R) (hy : y < R) : Pure 20 [PV x y false] (.bool (isPt x y false)) := by
  have a1 := f46_ok (m := P) (c := CP) P_R hx
  have a2 := f46_ok (m := P) (c := CP) P_R hy
  by_cases h : x < P
  · rw [decide_eq_true h] at a1
    by_cases h' : y < P
    · rw [decide_eq_true h'] at a2
      have : isPt x y false = decide (fmul y y = cub x) := by simp [isPt, h, h']
      rw [this]
      exact pure_of Try.func20 rfl 8 [PV x y false] [fB, pc 46 [FV P CP, NV x] (.bool true), pc 46 [FV P CP, NV y] (.bool true), fM y y, pc 67 [NV x] (NV (cub x)), eqF 35 (fmul y y) (cub x)] _
        (fun _ => ⟨fB_ok, pc_ok a1, pc_ok a2, fM_ok hy hy, pc_ok (f67_ok hx), eqF_ok (mR' _ _) (aR' _ _), trivial⟩) (fun γ => by kernel_rfl)
    · rw [decide_eq_false h'] at a2
      have : isPt x y false = false := by simp [isPt, h']
      rw [this]
      exact pure_of Try.func20 rfl 8 [PV x y false] [fB, pc 46 [FV P CP, NV x] (.bool true), pc 46 [FV P CP, NV y] (.bool false)] _ (fun _ => ⟨fB_ok, pc_ok a1, pc_ok a2, trivial⟩) (fun γ => by kernel_rfl)
  · rw [decide_eq_false h] at a1
    have : isPt x y false = false := by simp [isPt, h]
    rw [this]
    exact pure_of Try.func20 rfl 8 [PV x y false] [fB, pc 46 [FV P CP, NV x] (.bool false)] _ (fun _ => ⟨fB_ok, pc_ok a1, trivial⟩) (fun γ => by kernel_rfl)
theorem f20_ok {x y : Nat} {inf : Bool} (hx : x < R) (hy : y < R) : Pure 20 [PV x y inf] (.bool (isPt x y inf)) := by
  cases inf
  · exact f20_aff hx hy
  · exact f20_inf hx hy

def oIn (x y : Nat) (inf : Bool) : J := if inf then ⟨0, 1, 0⟩ else ⟨x, y, 1⟩
/-- wardmoteref03.In -/
theorem f62_ok {x y : Nat} : ∀ inf : Bool, Pure 62 [PV x y inf] (oIn x y inf).v
  | true => pure_of Try.func62 rfl 8 [PV x y true] [] _ (fun _ => trivial) (fun γ => by kernel_rfl)
  | false => pure_of Try.func62 rfl 8 [PV x y false] [] _ (fun _ => trivial) (fun γ => by kernel_rfl)

/-- wardmoteref03.Out -/
theorem f60_inf {x y : Nat} : Pure 60 [JV x y 0] (PV 0 0 true) :=
  pure_of Try.func60 rfl 8 [JV x y 0] [zB 0 true] _ (fun _ => ⟨zB_ok (by decide) rfl, trivial⟩) (fun γ => by kernel_rfl)
theorem f60_aff {x y z : Nat} (hx : x < P) (hy : y < P) (hz : z < P) (h0 : z ≠ 0) : Pure 60 [JV x y z] (PV (fmul x (inv z)) (fmul y (inv z)) false) :=
  pure_of Try.func60 rfl 8 [JV x y z] [zB z false, fB, pc 107 [FV P CP, NV z] (NV (inv z)), fM x (inv z), fM y (inv z)] _
    (fun _ => ⟨zB_ok (ltR hz) (decide_eq_false h0), fB_ok, pc_ok (f107_ok fcP (by decide) (ltR hz)), fM_ok (ltR hx) (ltR (inv_lt _)), fM_ok (ltR hy) (ltR (inv_lt _)), trivial⟩) (fun γ => by kernel_rfl)

/-- wardmoteref03.Neg -/
theorem f22_ok {x y : Nat} (hy : y < P) : ∀ inf : Bool, Pure 22 [PV x y inf] (PV x (fsub 0 y) inf)
  | true => pure_of Try.func22 rfl 8 [PV x y true] [fB, fS 0 y] _ (fun _ => ⟨fB_ok, fS_ok P_pos hy, trivial⟩) (fun γ => by kernel_rfl)
  | false => pure_of Try.func22 rfl 8 [PV x y false] [fB, fS 0 y] _ (fun _ => ⟨fB_ok, fS_ok P_pos hy, trivial⟩) (fun γ => by kernel_rfl)

def tW (x : Nat) : Nat := fadd (fadd (fmul x x) (fmul x x)) (fmul x x)
def tS (p : J) : Nat := fmul p.y p.z
def tB (p : J) : Nat := fmul (fmul p.x p.y) (tS p)
def t4 (b : Nat) : Nat := fadd (fadd b b) (fadd b b)
def tH (p : J) : Nat := fsub (fmul (tW p.x) (tW p.x)) (fadd (t4 (tB p)) (t4 (tB p)))
def tY (p : J) : Nat := fmul (fmul p.y (tS p)) (fmul p.y (tS p))
def tZ (p : J) : Nat := t4 (fmul (fmul (tS p) (tS p)) (tS p))
def tX (p : J) : J := ⟨fadd (fmul (tH p) (tS p)) (fmul (tH p) (tS p)), fsub (fmul (tW p.x) (fsub (t4 (tB p)) (tH p))) (fadd (t4 (tY p)) (t4 (tY p))), fadd (tZ p) (tZ p)⟩
def twi (p : J) : J := if p.z = 0 then ⟨0, 1, 0⟩ else if p.y = 0 then ⟨0, 1, 0⟩ else tX p
def f4 (b : Nat) : List Rec := [fA b b, fA b b, fA (fadd b b) (fadd b b)]
theorem f4_ok {w : World} {b : Nat} (hb : b < P) : RecsOk w (f4 b) := ⟨fA_ok hb hb, fA_ok hb hb, fA_ok (fadd_lt _ _) (fadd_lt _ _), trivial⟩
theorem t4_lt (b : Nat) : t4 b < P := fadd_lt _ _

def twRecs (p : J) : List Rec := [zB p.z false, zB p.y false, fB, fM p.x p.x, fA (fmul p.x p.x) (fmul p.x p.x), fA (fadd (fmul p.x p.x) (fmul p.x p.x)) (fmul p.x p.x), fM p.y p.z, fM p.x p.y, fM (fmul p.x p.y) (tS p)] ++ (f4 (tB p) ++
  ([fM (tW p.x) (tW p.x), fA (t4 (tB p)) (t4 (tB p)), fS (fmul (tW p.x) (tW p.x)) (fadd (t4 (tB p)) (t4 (tB p))), fM (tH p) (tS p), fM p.y (tS p), fM (fmul p.y (tS p)) (fmul p.y (tS p))] ++ (f4 (tY p) ++
  ([fM (tS p) (tS p), fM (fmul (tS p) (tS p)) (tS p)] ++ (f4 (fmul (fmul (tS p) (tS p)) (tS p)) ++
  [fA (fmul (tH p) (tS p)) (fmul (tH p) (tS p)), fS (t4 (tB p)) (tH p), fM (tW p.x) (fsub (t4 (tB p)) (tH p)), fA (t4 (tY p)) (t4 (tY p)), fS (fmul (tW p.x) (fsub (t4 (tB p)) (tH p))) (fadd (t4 (tY p)) (t4 (tY p))), fA (tZ p) (tZ p)])))))
theorem twRecs_ok {w : World} {p : J} (hp : p.lt) (h0 : p.z ≠ 0) (h1 : p.y ≠ 0) : RecsOk w (twRecs p) := by
  obtain ⟨hx, hy, hz⟩ := hp
  refine RecsOk.append ⟨zB_ok (ltR hz) (decide_eq_false h0), zB_ok (ltR hy) (decide_eq_false h1), fB_ok, fM_ok (ltR hx) (ltR hx), fA_ok (fmul_lt _ _) (fmul_lt _ _), fA_ok (fadd_lt _ _) (fmul_lt _ _), fM_ok (ltR hy) (ltR hz), fM_ok (ltR hx) (ltR hy), fM_ok (mR' _ _) (mR' _ _), trivial⟩ ?_
  refine RecsOk.append (f4_ok (fmul_lt _ _)) (RecsOk.append ?_ (RecsOk.append (f4_ok (fmul_lt _ _)) (RecsOk.append ?_ (RecsOk.append (f4_ok (fmul_lt _ _)) ?_))))
  · exact ⟨fM_ok (aR' _ _) (aR' _ _), fA_ok (t4_lt _) (t4_lt _), fS_ok (fmul_lt _ _) (fadd_lt _ _), fM_ok (sR' _ _) (mR' _ _), fM_ok (ltR hy) (mR' _ _), fM_ok (mR' _ _) (mR' _ _), trivial⟩
  · exact ⟨fM_ok (mR' _ _) (mR' _ _), fM_ok (mR' _ _) (mR' _ _), trivial⟩
  · exact ⟨fA_ok (fmul_lt _ _) (fmul_lt _ _), fS_ok (t4_lt _) (fsub_lt _ _), fM_ok (aR' _ _) (sR' _ _), fA_ok (t4_lt _) (t4_lt _), fS_ok (fmul_lt _ _) (fadd_lt _ _), fA_ok (t4_lt _) (t4_lt _), trivial⟩

/-- wardmoteref03.Twice -/
theorem f108_ok {p : J} (hp : p.lt) : Pure 108 [p.v] (twi p).v := by
  by_cases h0 : p.z = 0
  · have e : twi p = ⟨0, 1, 0⟩ := by unfold twi; rw [if_pos h0]
    rw [e]
    exact pure_of Try.func108 rfl 24 [p.v] [zB p.z true] _ (fun _ => ⟨zB_ok (ltR hp.2.2) (decide_eq_true h0), trivial⟩) (fun γ => by kernel_rfl)
  · by_cases h1 : p.y = 0
    · have e : twi p = ⟨0, 1, 0⟩ := by unfold twi; rw [if_neg h0, if_pos h1]
      rw [e]
      exact pure_of Try.func108 rfl 24 [p.v] [zB p.z false, zB p.y true] _ (fun _ => ⟨zB_ok (ltR hp.2.2) (decide_eq_false h0), zB_ok (ltR hp.2.1) (decide_eq_true h1), trivial⟩) (fun γ => by kernel_rfl)
    · have e : twi p = tX p := by unfold twi; rw [if_neg h0, if_neg h1]
      rw [e]
      exact pure_of Try.func108 rfl 24 [p.v] (twRecs p) _ (fun _ => twRecs_ok hp h0 h1) (fun γ => by kernel_rfl)
theorem twi_lt (p : J) : (twi p).lt := by
  unfold twi
  split
  · exact ⟨P_pos, by decide, P_pos⟩
  · split
    · exact ⟨P_pos, by decide, P_pos⟩
    · exact ⟨fadd_lt _ _, fsub_lt _ _, fadd_lt _ _⟩

def oU (a b : J) : Nat := fsub (fmul b.y a.z) (fmul a.y b.z)
def oV (a b : J) : Nat := fsub (fmul b.x a.z) (fmul a.x b.z)
def oZ (a b : J) : Nat := fmul a.z b.z
def o2 (a b : J) : Nat := fmul (oV a b) (oV a b)
def o3 (a b : J) : Nat := fmul (o2 a b) (oV a b)
def oW (a b : J) : Nat := fmul (o2 a b) (fmul a.x b.z)
def oT (a b : J) : Nat := fsub (fsub (fmul (fmul (oU a b) (oU a b)) (oZ a b)) (o3 a b)) (fadd (oW a b) (oW a b))
def oP (a b : J) : J := ⟨fmul (oV a b) (oT a b), fsub (fmul (oU a b) (fsub (oW a b) (oT a b))) (fmul (o3 a b) (fmul a.y b.z)), fmul (o3 a b) (oZ a b)⟩
def opl (a b : J) : J := if a.z = 0 then b else if b.z = 0 then a else if oV a b = 0 then (if oU a b = 0 then twi a else ⟨0, 1, 0⟩) else oP a b
theorem opl_lt {a b : J} (ha : a.lt) (hb : b.lt) : (opl a b).lt := by
  unfold opl
  split
  · exact hb
  · split
    · exact ha
    · split
      · split
        · exact twi_lt a
        · exact ⟨P_pos, by decide, P_pos⟩
      · exact ⟨fmul_lt _ _, fsub_lt _ _, fmul_lt _ _⟩

def opHead (a b : J) : List Rec := [zB a.z false, zB b.z false, fB, fM b.y a.z, fM a.y b.z, fS (fmul b.y a.z) (fmul a.y b.z), fM b.x a.z, fM a.x b.z, fS (fmul b.x a.z) (fmul a.x b.z)]
theorem opHead_ok {w : World} {a b : J} (ha : a.lt) (hb : b.lt) (h0 : a.z ≠ 0) (h1 : b.z ≠ 0) : RecsOk w (opHead a b) :=
  ⟨zB_ok (ltR ha.2.2) (decide_eq_false h0), zB_ok (ltR hb.2.2) (decide_eq_false h1), fB_ok, fM_ok (ltR hb.2.1) (ltR ha.2.2), fM_ok (ltR ha.2.1) (ltR hb.2.2), fS_ok (fmul_lt _ _) (fmul_lt _ _), fM_ok (ltR hb.1) (ltR ha.2.2), fM_ok (ltR ha.1) (ltR hb.2.2), fS_ok (fmul_lt _ _) (fmul_lt _ _), trivial⟩

/-- wardmoteref03.Plus -/
theorem f61_ok {a b : J} (ha : a.lt) (hb : b.lt) : Pure 61 [a.v, b.v] (opl a b).v := by
  by_cases h0 : a.z = 0
  · have e : opl a b = b := by unfold opl; rw [if_pos h0]
    rw [e]
    exact pure_of Try.func61 rfl 24 [a.v, b.v] [zB a.z true] _ (fun _ => ⟨zB_ok (ltR ha.2.2) (decide_eq_true h0), trivial⟩) (fun γ => by kernel_rfl)
  · by_cases h1 : b.z = 0
    · have e : opl a b = a := by unfold opl; rw [if_neg h0, if_pos h1]
      rw [e]
      exact pure_of Try.func61 rfl 24 [a.v, b.v] [zB a.z false, zB b.z true] _ (fun _ => ⟨zB_ok (ltR ha.2.2) (decide_eq_false h0), zB_ok (ltR hb.2.2) (decide_eq_true h1), trivial⟩) (fun γ => by kernel_rfl)
    · by_cases h2 : oV a b = 0
      · by_cases h3 : oU a b = 0
        · have e : opl a b = twi a := by unfold opl; rw [if_neg h0, if_neg h1, if_pos h2, if_pos h3]
          rw [e]
          exact pure_of Try.func61 rfl 24 [a.v, b.v] (opHead a b ++ [zB (oV a b) true, zB (oU a b) true, pc 108 [a.v] (JV (twi a).x (twi a).y (twi a).z)]) _
            (fun _ => (opHead_ok ha hb h0 h1).append ⟨zB_ok (sR' _ _) (decide_eq_true h2), zB_ok (sR' _ _) (decide_eq_true h3), pc_ok (f108_ok ha), trivial⟩) (fun γ => by kernel_rfl)
        · have e : opl a b = ⟨0, 1, 0⟩ := by unfold opl; rw [if_neg h0, if_neg h1, if_pos h2, if_neg h3]
          rw [e]
          exact pure_of Try.func61 rfl 24 [a.v, b.v] (opHead a b ++ [zB (oV a b) true, zB (oU a b) false]) _
            (fun _ => (opHead_ok ha hb h0 h1).append ⟨zB_ok (sR' _ _) (decide_eq_true h2), zB_ok (sR' _ _) (decide_eq_false h3), trivial⟩) (fun γ => by kernel_rfl)
      · have e : opl a b = oP a b := by unfold opl; rw [if_neg h0, if_neg h1, if_neg h2]
        rw [e]
        exact pure_of Try.func61 rfl 24 [a.v, b.v] (opHead a b ++ [zB (oV a b) false, fM a.z b.z, fM (oV a b) (oV a b), fM (o2 a b) (oV a b), fM a.x b.z, fM (o2 a b) (fmul a.x b.z), fM (oU a b) (oU a b), fM (fmul (oU a b) (oU a b)) (oZ a b), fS (fmul (fmul (oU a b) (oU a b)) (oZ a b)) (o3 a b),
              fA (oW a b) (oW a b), fS (fsub (fmul (fmul (oU a b) (oU a b)) (oZ a b)) (o3 a b)) (fadd (oW a b) (oW a b)), fM (oV a b) (oT a b), fS (oW a b) (oT a b), fM (oU a b) (fsub (oW a b) (oT a b)), fM a.y b.z, fM (o3 a b) (fmul a.y b.z),
              fS (fmul (oU a b) (fsub (oW a b) (oT a b))) (fmul (o3 a b) (fmul a.y b.z)), fM (o3 a b) (oZ a b)]) _
          (fun _ => (opHead_ok ha hb h0 h1).append ⟨zB_ok (sR' _ _) (decide_eq_false h2), fM_ok (ltR ha.2.2) (ltR hb.2.2), fM_ok (sR' _ _) (sR' _ _), fM_ok (mR' _ _) (sR' _ _), fM_ok (ltR ha.1) (ltR hb.2.2), fM_ok (mR' _ _) (mR' _ _), fM_ok (sR' _ _) (sR' _ _), fM_ok (mR' _ _) (mR' _ _), fS_ok (fmul_lt _ _) (fmul_lt _ _),
              fA_ok (fmul_lt _ _) (fmul_lt _ _), fS_ok (fsub_lt _ _) (fadd_lt _ _), fM_ok (sR' _ _) (sR' _ _), fS_ok (fmul_lt _ _) (fsub_lt _ _), fM_ok (sR' _ _) (sR' _ _), fM_ok (ltR ha.2.1) (ltR hb.2.2), fM_ok (mR' _ _) (mR' _ _),
              fS_ok (fmul_lt _ _) (fmul_lt _ _), fM_ok (mR' _ _) (mR' _ _), trivial⟩) (fun γ => by kernel_rfl)

end Go.Proofs.Ytildcmggcbdhpaa
