/- Plain: sums are grouped as you like: the identity behind it, by the kernel's reckoning. No program in sight. -/
import Derived.Test.YtildcmggcbdhpaaEcK
namespace Ec
set_option linter.unusedSectionVars false
variable {n : Nat} [NeZero n]

/-- a sum of two points X : Y : Z, whatever they are -/
structure C3 (T : Type) where
  x : T
  y : T
  z : T
def rcb (t : Tm) (A B : C3 t.T) : C3 t.T :=
  let m := t.mul
  let s := t.add
  let yy := m A.y B.y
  let zz := t.mul (t.cst 21) (m A.z B.z)
  let p := s yy zz
  let q := s yy (t.neg zz)
  let xy := s (m A.x B.y) (m B.x A.y)
  let yz := s (m A.y B.z) (m B.y A.z)
  let xz := s (m A.x B.z) (m B.x A.z)
  let xx := m A.x B.x
  ⟨s (m xy q) (t.neg (m (t.cst 21) (m yz xz))), s (m p q) (m (t.cst 63) (m xx xz)), s (m yz p) (m (t.cst 3) (m xx xy))⟩
def xX : Nat := 2 ^ 128
def xY : Nat := 2 ^ (128 * 16)
def xZ : Nat := 2 ^ (128 * 16 * 16)
def B3 : Tm := K3 xX xY xZ
def cub3 (a : KT) : KT := B3.add (B3.mul (B3.mul a a) a) (B3.cst 7)
def F1 : Tm := quad B3 (cub3 (kx xX))
def F2 : Tm := quad F1 (cub3 (ky xY), B3.cst 0)
def F3 : Tm := quad F2 ((cub3 (kz xZ), B3.cst 0), F1.cst 0)
def pA : C3 F3.T := ⟨(((kx xX, B3.cst 0), F1.cst 0), F2.cst 0), (((B3.cst 0, B3.cst 1), F1.cst 0), F2.cst 0), F3.cst 1⟩
def pB : C3 F3.T := ⟨(((ky xY, B3.cst 0), F1.cst 0), F2.cst 0), ((F1.cst 0, F1.cst 1), F2.cst 0), F3.cst 1⟩
def pC : C3 F3.T := ⟨(((kz xZ, B3.cst 0), F1.cst 0), F2.cst 0), (F2.cst 0, F2.cst 1), F3.cst 1⟩
def Lf : C3 F3.T := rcb F3 (rcb F3 pA pB) pC
def Rg : C3 F3.T := rcb F3 pA (rcb F3 pB pC)
def crs (a b c d : F3.T) : F3.T := F3.add (F3.mul a d) (F3.neg (F3.mul b c))
theorem k0 : F3.isZ (crs Lf.x Rg.x Lf.z Rg.z) = true := by decide +kernel
theorem k1 : F3.isZ (crs Lf.y Rg.y Lf.z Rg.z) = true := by decide +kernel

/-- .. of numbers mod n -/
def fT (n : Nat) [NeZero n] : Tm := ⟨Fin n, fun a b => a + b, fun a b => a * b, fun a => -a, fun k => Fin.ofNat n k, fun a => decide (a = 0)⟩
abbrev rcbF (A B : C3 (Fin n)) : C3 (Fin n) := rcb (fT n) A B

def CR {t : Tm} (R : t.T → Fin n → Prop) (A : C3 t.T) (B : C3 (Fin n)) : Prop := R A.x B.x ∧ R A.y B.y ∧ R A.z B.z
theorem rcb_is {t : Tm} {R : t.T → Fin n → Prop} (h : Sound t R) {A B : C3 t.T} {A' B' : C3 (Fin n)} (hA : CR R A A') (hB : CR R B B') : CR R (rcb t A B) (rcbF A' B') := by
  obtain ⟨a1, a2, a3⟩ := hA
  obtain ⟨b1, b2, b3⟩ := hB
  have yy := h.mul a2 b2
  have zz := h.mul (h.cst 21) (h.mul a3 b3)
  have p := h.add yy zz
  have q := h.add yy (h.neg zz)
  have xy := h.add (h.mul a1 b2) (h.mul b1 a2)
  have yz := h.add (h.mul a2 b3) (h.mul b2 a3)
  have xz := h.add (h.mul a1 b3) (h.mul b1 a3)
  have xx := h.mul a1 b1
  exact ⟨h.add (h.mul xy q) (h.neg (h.mul (h.cst 21) (h.mul yz xz))), h.add (h.mul p q) (h.mul (h.cst 63) (h.mul xx xz)), h.add (h.mul yz p) (h.mul (h.cst 3) (h.mul xx xy))⟩

theorem crs_is {R : F3.T → Fin n → Prop} (h : Sound F3 R) {L M : C3 F3.T} {L' M' : C3 (Fin n)} (hL : CR R L L') (hM : CR R M M') :
    (F3.isZ (crs L.x M.x L.z M.z) = true → L'.x * M'.z + -(M'.x * L'.z) = 0) ∧ (F3.isZ (crs L.y M.y L.z M.z) = true → L'.y * M'.z + -(M'.y * L'.z) = 0) :=
  ⟨fun hz => h.isZ (h.add (h.mul hL.1 hM.2.2) (h.neg (h.mul hM.1 hL.2.2))) hz, fun hz => h.isZ (h.add (h.mul hL.2.1 hM.2.2) (h.neg (h.mul hM.2.1 hL.2.2))) hz⟩

theorem assoc_of {R : F3.T → Fin n → Prop} (h : Sound F3 R) {A B C : C3 (Fin n)} (hA : CR R pA A) (hB : CR R pB B) (hC : CR R pC C) :
    (rcbF (rcbF A B) C).x * (rcbF A (rcbF B C)).z + -((rcbF A (rcbF B C)).x * (rcbF (rcbF A B) C).z) = 0 ∧ (rcbF (rcbF A B) C).y * (rcbF A (rcbF B C)).z + -((rcbF A (rcbF B C)).y * (rcbF (rcbF A B) C).z) = 0 := by
  have hL : CR R Lf (rcbF (rcbF A B) C) := rcb_is h (rcb_is h hA hB) hC
  have hM : CR R Rg (rcbF A (rcbF B C)) := rcb_is h hA (rcb_is h hB hC)
  have := crs_is h hL hM
  exact ⟨this.1 k0, this.2 k1⟩

theorem assoc_raw {x1 y1 x2 y2 x3 y3 : Fin n} (h1 : y1 * y1 = x1 * x1 * x1 + Fin.ofNat n 7) (h2 : y2 * y2 = x2 * x2 * x2 + Fin.ofNat n 7) (h3 : y3 * y3 = x3 * x3 * x3 + Fin.ofNat n 7) :
    let A : C3 (Fin n) := ⟨x1, y1, Fin.ofNat n 1⟩
    let B : C3 (Fin n) := ⟨x2, y2, Fin.ofNat n 1⟩
    let C : C3 (Fin n) := ⟨x3, y3, Fin.ofNat n 1⟩
    let L := rcbF (rcbF A B) C
    let R := rcbF A (rcbF B C)
    L.x * R.z + -(R.x * L.z) = 0 ∧ L.y * R.z + -(R.y * L.z) = 0 := by
  have s0 : Sound B3 (KR xX xY xZ x1 x2 x3) := K3_sound xX xY xZ x1 x2 x3
  have c : ∀ {a e}, KR xX xY xZ x1 x2 x3 a e → KR xX xY xZ x1 x2 x3 (cub3 a) (e * e * e + Fin.ofNat n 7) := fun ha => s0.add (s0.mul (s0.mul ha ha) ha) (s0.cst 7)
  have kx' := kx_is xX xY xZ x1 x2 x3
  have ky' := ky_is xX xY xZ x1 x2 x3
  have kz' := kz_is xX xY xZ x1 x2 x3
  have s1 : Sound F1 (QR (KR xX xY xZ x1 x2 x3) y1) := quad_sound s0 (c kx') h1
  have s2 : Sound F2 (QR (QR (KR xX xY xZ x1 x2 x3) y1) y2) := quad_sound s1 (quad_in s0 (c ky')) h2
  have s3 : Sound F3 (QR (QR (QR (KR xX xY xZ x1 x2 x3) y1) y2) y3) := quad_sound s2 (quad_in s1 (quad_in s0 (c kz'))) h3
  have hA : CR (t := F3) (QR (QR (QR (KR xX xY xZ x1 x2 x3) y1) y2) y3) pA (⟨x1, y1, Fin.ofNat n 1⟩ : C3 (Fin n)) := ⟨quad_in s2 (quad_in s1 (quad_in s0 kx')), quad_in s2 (quad_in s1 (quad_y s0)), s3.cst 1⟩
  have hB : CR (t := F3) (QR (QR (QR (KR xX xY xZ x1 x2 x3) y1) y2) y3) pB (⟨x2, y2, Fin.ofNat n 1⟩ : C3 (Fin n)) := ⟨quad_in s2 (quad_in s1 (quad_in s0 ky')), quad_in s2 (quad_y s1), s3.cst 1⟩
  have hC : CR (t := F3) (QR (QR (QR (KR xX xY xZ x1 x2 x3) y1) y2) y3) pC (⟨x3, y3, Fin.ofNat n 1⟩ : C3 (Fin n)) := ⟨quad_in s2 (quad_in s1 (quad_in s0 kz')), quad_y s2, s3.cst 1⟩
  exact assoc_of s3 hA hB hC

end Ec
