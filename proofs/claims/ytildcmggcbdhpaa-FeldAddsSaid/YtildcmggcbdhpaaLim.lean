/- Plain arithmetic of limbs: lists of digits to the base 2^64, the lowest first. No conditions. -/
namespace Lim

def B : Nat := 18446744073709551616
theorem B_eq : B = 18446744073709551616 := rfl

def val : List Nat → Nat
  | [] => 0
  | x :: l => x + B * val l

def Dig (l : List Nat) : Prop := ∀ x ∈ l, x < B

theorem Dig.nil : Dig [] := fun x h => by cases h
theorem Dig.cons {x : Nat} {l : List Nat} (h : x < B) (hl : Dig l) : Dig (x :: l) := fun y hy => by
  rcases List.mem_cons.1 hy with rfl | hy
  · exact h
  · exact hl y hy
theorem Dig.head {x : Nat} {l : List Nat} (h : Dig (x :: l)) : x < B := h x (by simp)
theorem Dig.tail {x : Nat} {l : List Nat} (h : Dig (x :: l)) : Dig l := fun y hy => h y (by simp [hy])
theorem Dig.append {l m : List Nat} (h : Dig l) (hm : Dig m) : Dig (l ++ m) := fun y hy => by
  rcases List.mem_append.1 hy with hy | hy
  · exact h y hy
  · exact hm y hy

theorem B_pos : 0 < B := by decide

theorem val_lt : ∀ l : List Nat, Dig l → val l < B ^ l.length
  | [], _ => by simp [val]
  | x :: l, h => by
    have h1 := val_lt l h.tail
    have h2 := h.head
    simp only [val, List.length_cons, Nat.pow_succ]
    have h3 : B * (val l + 1) ≤ B * B ^ l.length := Nat.mul_le_mul_left B h1
    rw [Nat.mul_add, Nat.mul_one] at h3
    rw [Nat.mul_comm (B ^ l.length)]
    omega

theorem val_append : ∀ l m : List Nat, val (l ++ m) = val l + B ^ l.length * val m
  | [], m => by simp [val]
  | x :: l, m => by
    simp only [List.cons_append, val, val_append l m, List.length_cons, Nat.pow_succ]
    rw [Nat.mul_add, ← Nat.mul_assoc, Nat.mul_comm B (B ^ l.length)]
    omega

theorem val_replicate : ∀ n, val (List.replicate n 0) = 0
  | 0 => rfl
  | n + 1 => by simp [List.replicate_succ, val, val_replicate n]

/-- the first n digits of a number -/
def digs : Nat → Nat → List Nat
  | 0, _ => []
  | n + 1, a => a % B :: digs n (a / B)

theorem digs_dig : ∀ n a, Dig (digs n a)
  | 0, _ => Dig.nil
  | n + 1, a => Dig.cons (Nat.mod_lt _ B_pos) (digs_dig n _)

theorem digs_length : ∀ n a, (digs n a).length = n
  | 0, _ => rfl
  | n + 1, a => by simp [digs, digs_length n]

theorem val_digs : ∀ n a, val (digs n a) = a % B ^ n
  | 0, _ => by simp [digs, val, Nat.mod_one]
  | n + 1, a => by
    simp only [digs, val, val_digs n]
    rw [Nat.pow_succ, Nat.mul_comm (B ^ n) B, Nat.mod_mul]

theorem digs_val : ∀ l : List Nat, Dig l → digs l.length (val l) = l
  | [], _ => rfl
  | x :: l, h => by
    have h2 := h.head
    simp only [List.length_cons, digs, val]
    have e1 : (x + B * val l) % B = x := by rw [Nat.add_mul_mod_self_left, Nat.mod_eq_of_lt h2]
    have e2 : (x + B * val l) / B = val l := by rw [Nat.add_mul_div_left _ _ B_pos, Nat.div_eq_of_lt h2, Nat.zero_add]
    rw [e1, e2, digs_val l h.tail]

/-! sums -/
def addc : List Nat → List Nat → Nat → List Nat × Nat
  | x :: xs, y :: ys, c => let r := addc xs ys ((x + y + c) / B); ((x + y + c) % B :: r.1, r.2)
  | _, _, c => ([], c)

theorem addc_spec : ∀ (xs ys : List Nat) (c : Nat), Dig xs → Dig ys → xs.length = ys.length → c ≤ 1 →
    val (addc xs ys c).1 + B ^ xs.length * (addc xs ys c).2 = val xs + val ys + c ∧ Dig (addc xs ys c).1 ∧ (addc xs ys c).1.length = xs.length ∧ (addc xs ys c).2 ≤ 1
  | [], [], c, _, _, _, hc => by simp [addc, val, Dig.nil, hc]
  | [], _ :: _, _, _, _, h, _ => by simp at h
  | _ :: _, [], _, _, _, h, _ => by simp at h
  | x :: xs, y :: ys, c, hx, hy, hl, hc => by
    have h1 := hx.head
    have h2 := hy.head
    have hc' : (x + y + c) / B ≤ 1 := by
      have : (x + y + c) / B < 2 := Nat.div_lt_of_lt_mul (by omega)
      omega
    obtain ⟨e1, e2, e3, e4⟩ := addc_spec xs ys ((x + y + c) / B) hx.tail hy.tail (by simpa using hl) hc'
    refine ⟨?_, Dig.cons (Nat.mod_lt _ B_pos) e2, by simp [addc, e3], e4⟩
    simp only [addc, val, List.length_cons, Nat.pow_succ]
    have hd := Nat.div_add_mod (x + y + c) B
    have e1' := congrArg (B * ·) e1
    simp only [Nat.mul_add] at e1'
    have hm : B ^ xs.length * B * (addc xs ys ((x + y + c) / B)).2 = B * (B ^ xs.length * (addc xs ys ((x + y + c) / B)).2) := by
      rw [Nat.mul_comm (B ^ xs.length) B, Nat.mul_assoc]
    rw [hm]
    omega

/-! differences -/
def subb : List Nat → List Nat → Nat → List Nat × Nat
  | x :: xs, y :: ys, c => let r := subb xs ys (if x < y + c then 1 else 0); ((x + B - y - c) % B :: r.1, r.2)
  | _, _, c => ([], c)

theorem sub_step (x y c : Nat) (hx : x < B) (hy : y < B) (hc : c ≤ 1) : (x + B - y - c) % B + y + c = x + B * (if x < y + c then 1 else 0) := by
  unfold B at *
  split <;> omega

theorem subb_spec : ∀ (xs ys : List Nat) (c : Nat), Dig xs → Dig ys → xs.length = ys.length → c ≤ 1 →
    val (subb xs ys c).1 + val ys + c = val xs + B ^ xs.length * (subb xs ys c).2 ∧ Dig (subb xs ys c).1 ∧ (subb xs ys c).1.length = xs.length ∧ (subb xs ys c).2 ≤ 1
  | [], [], c, _, _, _, hc => by simp [subb, val, Dig.nil, hc]
  | [], _ :: _, _, _, _, h, _ => by simp at h
  | _ :: _, [], _, _, _, h, _ => by simp at h
  | x :: xs, y :: ys, c, hx, hy, hl, hc => by
    have h1 := hx.head
    have h2 := hy.head
    have hs := sub_step x y c h1 h2 hc
    have hc' : (if x < y + c then 1 else 0) ≤ 1 := by split <;> omega
    obtain ⟨e1, e2, e3, e4⟩ := subb_spec xs ys (if x < y + c then 1 else 0) hx.tail hy.tail (by simpa using hl) hc'
    refine ⟨?_, Dig.cons (Nat.mod_lt _ B_pos) e2, by simp [subb, e3], e4⟩
    simp only [subb, val, List.length_cons, Nat.pow_succ]
    generalize (if x < y + c then 1 else 0) = d at *
    have e1' := congrArg (B * ·) e1
    simp only [Nat.mul_add] at e1'
    have hm : B ^ xs.length * B * (subb xs ys d).2 = B * (B ^ xs.length * (subb xs ys d).2) := by
      rw [Nat.mul_comm (B ^ xs.length) B, Nat.mul_assoc]
    rw [hm]
    omega

/-! products -/
def mlo (x y : Nat) : Nat := x * y % B
def mhi (x y : Nat) : Nat := x * y / B
def a1 (x y o : Nat) : Nat := (mlo x y + o + 0) % B
def c1 (x y o : Nat) : Nat := (mlo x y + o + 0) / B
def h1 (x y o : Nat) : Nat := mhi x y + c1 x y o
def a2 (x y o c : Nat) : Nat := (a1 x y o + c + 0) % B
def c2 (x y o c : Nat) : Nat := (a1 x y o + c + 0) / B
def h2 (x y o c : Nat) : Nat := h1 x y o + c2 x y o c

theorem mac (x y o c : Nat) (hx : x < B) (hy : y < B) (ho : o < B) (hc : c < B) :
    a2 x y o c + B * h2 x y o c = x * y + o + c ∧ a2 x y o c < B ∧ h2 x y o c < B ∧ h1 x y o < B ∧ c1 x y o ≤ 1 ∧ c2 x y o c ≤ 1 := by
  have hxy : x * y ≤ (B - 1) * (B - 1) := Nat.mul_le_mul (by omega) (by omega)
  have e1 := Nat.div_add_mod (x * y) B
  have e2 := Nat.div_add_mod (mlo x y + o + 0) B
  have e3 := Nat.div_add_mod (a1 x y o + c + 0) B
  have l1 : mlo x y < B := Nat.mod_lt _ B_pos
  have l2 : a1 x y o < B := Nat.mod_lt _ B_pos
  have l3 : a2 x y o c < B := Nat.mod_lt _ B_pos
  have k1 : c1 x y o ≤ 1 := by
    have : c1 x y o < 2 := Nat.div_lt_of_lt_mul (by omega)
    omega
  have k2 : c2 x y o c ≤ 1 := by
    have : c2 x y o c < 2 := Nat.div_lt_of_lt_mul (by omega)
    omega
  have e : a2 x y o c + B * h2 x y o c = x * y + o + c := by
    unfold h2 h1
    have d1 : B * mhi x y + mlo x y = x * y := e1
    have d2 : B * c1 x y o + a1 x y o = mlo x y + o + 0 := e2
    have d3 : B * c2 x y o c + a2 x y o c = a1 x y o + c + 0 := e3
    rw [Nat.mul_add, Nat.mul_add]
    omega
  have hb : (B - 1) * (B - 1) = 340282366920938463426481119284349108225 := by decide
  have hB : B = 18446744073709551616 := rfl
  have t2 : h2 x y o c < B := by
    rw [hb] at hxy
    have : B * h2 x y o c ≤ 340282366920938463426481119284349108225 + 2 * (B - 1) := by omega
    rw [hB] at this ⊢
    omega
  exact ⟨e, l3, t2, Nat.lt_of_le_of_lt (Nat.le_add_right _ _) t2, k1, k2⟩

def mrow (x : Nat) : List Nat → List Nat → Nat → List Nat × Nat
  | y :: ys, o :: os, c => let r := mrow x ys os (h2 x y o c); (a2 x y o c :: r.1, r.2)
  | _, _, c => ([], c)

theorem mrow_spec (x : Nat) (hx : x < B) : ∀ (ys os : List Nat) (c : Nat), Dig ys → Dig os → ys.length = os.length → c < B →
    val (mrow x ys os c).1 + B ^ ys.length * (mrow x ys os c).2 = x * val ys + val os + c ∧ Dig (mrow x ys os c).1 ∧ (mrow x ys os c).1.length = ys.length ∧ (mrow x ys os c).2 < B
  | [], [], c, _, _, _, hc => by simp [mrow, val, Dig.nil, hc]
  | [], _ :: _, _, _, _, h, _ => by simp at h
  | _ :: _, [], _, _, _, h, _ => by simp at h
  | y :: ys, o :: os, c, hy, ho, hl, hc => by
    obtain ⟨m1, m2, m3, _⟩ := mac x y o c hx hy.head ho.head hc
    obtain ⟨e1, e2, e3, e4⟩ := mrow_spec x hx ys os (h2 x y o c) hy.tail ho.tail (by simpa using hl) m3
    refine ⟨?_, Dig.cons m2 e2, by simp [mrow, e3], e4⟩
    simp only [mrow, val, List.length_cons, Nat.pow_succ]
    have e1' := congrArg (B * ·) e1
    simp only [Nat.mul_add] at e1'
    have hm : B ^ ys.length * B * (mrow x ys os (h2 x y o c)).2 = B * (B ^ ys.length * (mrow x ys os (h2 x y o c)).2) := by
      rw [Nat.mul_comm (B ^ ys.length) B, Nat.mul_assoc]
    rw [hm, Nat.mul_add x, Nat.mul_left_comm x B]
    omega

def mulRows : List Nat → List Nat → List Nat → List Nat
  | [], _, acc => acc
  | x :: xs, ys, acc => let r := mrow x ys acc 0; r.1.headD 0 :: mulRows xs ys (r.1.tail ++ [r.2])

theorem head_tail {l : List Nat} (h : 0 < l.length) : l = l.headD 0 :: l.tail := by
  cases l with
  | nil => simp at h
  | cons x l => rfl

theorem shift_spec {l : List Nat} {c n : Nat} (h : Dig l) (hc : c < B) (hl : l.length = n + 1) : l.headD 0 + B * val (l.tail ++ [c]) = val l + B ^ l.length * c ∧ Dig (l.tail ++ [c]) ∧ (l.tail ++ [c]).length = n + 1 ∧ l.headD 0 < B := by
  have e := head_tail (l := l) (by omega)
  have hd : Dig (l.headD 0 :: l.tail) := by rw [← e]; exact h
  refine ⟨?_, hd.tail.append (Dig.cons hc Dig.nil), by simp; omega, hd.head⟩
  have h1 := val_append (l.headD 0 :: l.tail) [c]
  rw [← e] at h1
  have h2 : val (l ++ [c]) = l.headD 0 + B * val (l.tail ++ [c]) := by
    conv => lhs; rw [e]
    rfl
  rw [← h2, h1]
  simp [val]

theorem mulRows_spec : ∀ (xs ys acc : List Nat), Dig xs → Dig ys → Dig acc → acc.length = ys.length → 0 < ys.length →
    val (mulRows xs ys acc) = val acc + val xs * val ys ∧ Dig (mulRows xs ys acc) ∧ (mulRows xs ys acc).length = xs.length + ys.length
  | [], ys, acc, _, _, ha, hl, _ => ⟨by simp [mulRows, val], ha, by simp [mulRows, hl]⟩
  | x :: xs, ys, acc, hx, hy, ha, hl, hp => by
    obtain ⟨e1, e2, e3, e4⟩ := mrow_spec x hx.head ys acc 0 hy ha hl.symm B_pos
    obtain ⟨f1, f2, f3, f4⟩ := shift_spec (n := ys.length - 1) e2 e4 (by omega)
    obtain ⟨g1, g2, g3⟩ := mulRows_spec xs ys ((mrow x ys acc 0).1.tail ++ [(mrow x ys acc 0).2]) hx.tail hy f2 (by omega) hp
    refine ⟨?_, Dig.cons f4 g2, by simp only [mulRows, List.length_cons, g3]; omega⟩
    simp only [mulRows, val]
    rw [g1, Nat.mul_add, ← Nat.add_assoc, f1, e3, e1, Nat.add_mul, Nat.mul_assoc]
    omega

/-- a carry goes on -/
def prop : List Nat → Nat → List Nat × Nat
  | o :: os, c => let r := prop os ((o + c + 0) / B); ((o + c + 0) % B :: r.1, r.2)
  | [], c => ([], c)

theorem prop_spec : ∀ (os : List Nat) (c : Nat), Dig os → c < B →
    val (prop os c).1 + B ^ os.length * (prop os c).2 = val os + c ∧ Dig (prop os c).1 ∧ (prop os c).1.length = os.length ∧ (prop os c).2 < B
  | [], c, _, hc => by simp [prop, val, Dig.nil, hc]
  | o :: os, c, ho, hc => by
    have h1 := ho.head
    have hc' : (o + c + 0) / B < 2 := Nat.div_lt_of_lt_mul (by omega)
    have hB : 2 < B := by decide
    obtain ⟨e1, e2, e3, e4⟩ := prop_spec os ((o + c + 0) / B) ho.tail (by omega)
    refine ⟨?_, Dig.cons (Nat.mod_lt _ B_pos) e2, by rw [prop]; simp only [List.length_cons]; rw [e3], e4⟩
    simp only [prop, val, List.length_cons, Nat.pow_succ]
    have hd := Nat.div_add_mod (o + c + 0) B
    have e1' := congrArg (B * ·) e1
    simp only [Nat.mul_add] at e1'
    have hm : B ^ os.length * B * (prop os ((o + c + 0) / B)).2 = B * (B ^ os.length * (prop os ((o + c + 0) / B)).2) := by
      rw [Nat.mul_comm (B ^ os.length) B, Nat.mul_assoc]
    rw [hm]
    omega

end Lim
