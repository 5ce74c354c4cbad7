/- Plain arithmetic: primes, the little theorem, a test for primes (Pocklington), and that P and Q are primes. No conditions. -/
namespace Ec

def Pr (p : Nat) : Prop := 2 ≤ p ∧ ∀ d, d ∣ p → d = 1 ∨ d = p

theorem Pr.pos {p : Nat} (h : Pr p) : 0 < p := by have := h.1; omega

theorem Pr.cop {p a : Nat} (h : Pr p) (ha : ¬ p ∣ a) : Nat.Coprime p a := by
  rcases h.2 (Nat.gcd p a) (Nat.gcd_dvd_left p a) with h1 | h1
  · exact h1
  · exact absurd (h1 ▸ Nat.gcd_dvd_right p a) ha

theorem Pr.mul {p a b : Nat} (h : Pr p) (hd : p ∣ a * b) : p ∣ a ∨ p ∣ b := by
  by_cases ha : p ∣ a
  · exact .inl ha
  · exact .inr ((h.cop ha).dvd_of_dvd_mul_left hd)

def ch : Nat → Nat → Nat
  | _, 0 => 1
  | 0, _ + 1 => 0
  | n + 1, k + 1 => ch n k + ch n (k + 1)

theorem ch_over : ∀ n k, n < k → ch n k = 0
  | 0, 0, h => by omega
  | 0, _ + 1, _ => rfl
  | _ + 1, 0, h => by omega
  | n + 1, k + 1, h => by simp [ch, ch_over n k (by omega), ch_over n (k + 1) (by omega)]

theorem ch_zero (n : Nat) : ch n 0 = 1 := by cases n <;> rfl

theorem ch_same : ∀ n, ch n n = 1
  | 0 => rfl
  | n + 1 => by simp [ch, ch_same n, ch_over n (n + 1) (by omega)]

theorem ch_mul : ∀ n k, (k + 1) * ch (n + 1) (k + 1) = (n + 1) * ch n k
  | 0, 0 => by simp [ch]
  | 0, k + 1 => by simp [ch]
  | n + 1, 0 => by
    have h := ch_mul n 0
    simp only [ch, ch_zero] at h ⊢
    omega
  | n + 1, k + 1 => by
    have h1 := ch_mul n k
    have h2 := ch_mul n (k + 1)
    have e1 : ch (n + 1 + 1) (k + 1 + 1) = ch (n + 1) (k + 1) + ch (n + 1) (k + 1 + 1) := rfl
    have e2 : ch (n + 1) (k + 1) = ch n k + ch n (k + 1) := rfl
    rw [e1, Nat.mul_add, h2]
    have : (k + 1 + 1) * ch (n + 1) (k + 1) = (k + 1) * ch (n + 1) (k + 1) + ch (n + 1) (k + 1) := by
      rw [Nat.add_mul (k + 1) 1, Nat.one_mul]
    rw [this, h1]
    have : (n + 1 + 1) * ch (n + 1) (k + 1) = (n + 1) * ch (n + 1) (k + 1) + ch (n + 1) (k + 1) := by
      rw [Nat.add_mul (n + 1) 1, Nat.one_mul]
    rw [this, e2, Nat.mul_add]
    omega

theorem ch_div {p k : Nat} (h : Pr p) (h0 : 0 < k) (hk : k < p) : p ∣ ch p k := by
  obtain ⟨j, rfl⟩ : ∃ j, k = j + 1 := ⟨k - 1, by omega⟩
  obtain ⟨n, rfl⟩ : ∃ n, p = n + 1 := ⟨p - 1, by omega⟩
  have hm := ch_mul n j
  have hd : (n + 1) ∣ (j + 1) * ch (n + 1) (j + 1) := ⟨_, hm⟩
  rcases h.mul hd with h1 | h1
  · have := Nat.le_of_dvd (by omega) h1
    omega
  · exact h1

def sm (f : Nat → Nat) : Nat → Nat
  | 0 => 0
  | n + 1 => sm f n + f n

theorem binom_step (n a : Nat) : ∀ m, (a + 1) * sm (fun k => ch n k * a ^ k) (m + 1) = sm (fun k => ch (n + 1) k * a ^ k) (m + 1) + ch n m * a ^ (m + 1)
  | 0 => by simp [sm, ch_zero]; omega
  | m + 1 => by
    have h := binom_step n a m
    rw [sm, Nat.mul_add, h]
    have e : sm (fun k => ch (n + 1) k * a ^ k) (m + 1 + 1) = sm (fun k => ch (n + 1) k * a ^ k) (m + 1) + (ch n m + ch n (m + 1)) * a ^ (m + 1) := rfl
    rw [e, Nat.add_mul, Nat.add_mul, Nat.one_mul]
    have e2 : a * (ch n (m + 1) * a ^ (m + 1)) = ch n (m + 1) * a ^ (m + 1 + 1) := by
      rw [Nat.pow_succ a (m + 1), Nat.mul_left_comm, Nat.mul_comm a]
    rw [e2]
    omega

theorem binom (a : Nat) : ∀ n, (a + 1) ^ n = sm (fun k => ch n k * a ^ k) (n + 1)
  | 0 => by simp [sm, ch]
  | n + 1 => by
    rw [Nat.pow_succ, binom a n, Nat.mul_comm, binom_step n a n]
    have e : sm (fun k => ch (n + 1) k * a ^ k) (n + 1 + 1) = sm (fun k => ch (n + 1) k * a ^ k) (n + 1) + ch (n + 1) (n + 1) * a ^ (n + 1) := rfl
    rw [e, ch_same, ch_same]

theorem sm_mod (f : Nat → Nat) (p : Nat) : ∀ n, (∀ k, 0 < k → k < n → p ∣ f k) → 0 < n → sm f n % p = f 0 % p
  | 0, _, h => by omega
  | 1, _, _ => by simp [sm]
  | n + 2, h, _ => by
    rw [sm, Nat.add_mod, sm_mod f p (n + 1) (fun k a b => h k a (by omega)) (by omega)]
    rw [Nat.mod_eq_zero_of_dvd (h (n + 1) (by omega) (by omega))]
    simp

theorem fresh {p : Nat} (h : Pr p) (a : Nat) : (a + 1) ^ p % p = (a ^ p + 1) % p := by
  rw [binom, sm, Nat.add_mod, sm_mod _ p p (fun k a b => Nat.dvd_trans (ch_div h a b) (Nat.dvd_mul_right _ _)) h.pos]
  rw [ch_same]
  simp [ch_zero, Nat.add_comm]

theorem fermat_pow {p : Nat} (h : Pr p) : ∀ a : Nat, a ^ p % p = a % p
  | 0 => by
    have := h.pos
    rw [Nat.zero_pow this]
  | a + 1 => by
    rw [fresh h, Nat.add_mod, fermat_pow h a, ← Nat.add_mod]

theorem dvd_sub_mod {d a b : Nat} (h : a % d = b % d) : d ∣ a - b := by
  refine ⟨a / d - b / d, ?_⟩
  have e1 := Nat.div_add_mod a d
  have e2 := Nat.div_add_mod b d
  rw [Nat.mul_sub]
  omega

/-- The little theorem. -/
theorem fermat {p a : Nat} (h : Pr p) (ha : ¬ p ∣ a) : a ^ (p - 1) % p = 1 := by
  have h2 := h.1
  have e := fermat_pow h a
  obtain ⟨n, rfl⟩ : ∃ n, p = n + 1 := ⟨p - 1, by omega⟩
  have hp : 1 ≤ a ^ n := by
    apply Nat.pos_of_ne_zero
    intro h0
    have : a = 0 := by
      rcases Nat.eq_zero_or_pos a with h1 | h1
      · exact h1
      · exact absurd h0 (Nat.ne_of_gt (Nat.pow_pos h1))
    exact ha (this ▸ Nat.dvd_zero _)
  have hd : (n + 1) ∣ a ^ n * a - a := by
    refine dvd_sub_mod ?_
    rw [← Nat.pow_succ]; exact e
  have hd2 : (n + 1) ∣ a * (a ^ n - 1) := by
    rw [Nat.mul_sub, Nat.mul_one, Nat.mul_comm]; exact hd
  rcases h.mul hd2 with h3 | h3
  · exact absurd h3 ha
  · obtain ⟨c, hc⟩ := h3
    have : a ^ n = 1 + (n + 1) * c := by omega
    show a ^ n % (n + 1) = 1
    rw [this, Nat.add_mul_mod_self_left, Nat.mod_eq_of_lt (by omega)]

theorem pow_dvd_one {d a m k : Nat} (h : a ^ m % d = 1 % d) (hk : m ∣ k) : a ^ k % d = 1 % d := by
  obtain ⟨c, rfl⟩ := hk
  rw [Nat.pow_mul, Nat.pow_mod, h, ← Nat.pow_mod, Nat.one_pow]

theorem pow_gcd_one (d a : Nat) : ∀ m n, a ^ m % d = 1 % d → a ^ n % d = 1 % d → a ^ (Nat.gcd m n) % d = 1 % d := by
  intro m n
  induction m, n using Nat.gcd.induction with
  | H0 n => intro _ h; simpa using h
  | H1 m n hm ih =>
    intro h1 h2
    rw [Nat.gcd_rec]
    refine ih ?_ h1
    have e : n = m * (n / m) + n % m := (Nat.div_add_mod n m).symm
    rw [e, Nat.pow_add, Nat.mul_mod, pow_dvd_one h1 (Nat.dvd_mul_right _ _), ← Nat.mul_mod, Nat.one_mul] at h2
    exact h2

theorem least_factor (n : Nat) (h : 2 ≤ n) : ∃ d, Pr d ∧ d ∣ n ∧ (Pr n ∨ d * d ≤ n) := by
  induction n using Nat.strongRecOn with
  | ind n ih =>
    by_cases hp : Pr n
    · exact ⟨n, hp, Nat.dvd_refl n, .inl hp⟩
    · have : ∃ d, d ∣ n ∧ d ≠ 1 ∧ d ≠ n := by
        apply Classical.byContradiction
        intro hn
        apply hp
        refine ⟨h, fun d hd => ?_⟩
        apply Classical.byContradiction
        intro hne
        exact hn ⟨d, hd, fun e => hne (.inl e), fun e => hne (.inr e)⟩
      obtain ⟨d, ⟨c, hc⟩, h1, hn⟩ := this
      have hd0 : d ≠ 0 := by rintro rfl; simp at hc; omega
      have hc0 : c ≠ 0 := by rintro rfl; simp at hc; omega
      have hc1 : c ≠ 1 := by rintro rfl; simp at hc; omega
      have hcn : c ≠ n := by
        rintro rfl
        have : c * 1 < c * d := Nat.mul_lt_mul_of_pos_left (by omega) (by omega)
        rw [Nat.mul_comm d c] at hc
        omega
      have hdl : d ≤ n := Nat.le_of_dvd (by omega) ⟨c, hc⟩
      have hcl : c ≤ n := Nat.le_of_dvd (by omega) ⟨d, by rw [Nat.mul_comm]; exact hc⟩
      rcases Nat.le_total d c with hle | hle
      · obtain ⟨e, he, hed, _⟩ := ih d (by omega) (by omega)
        have hel := Nat.le_of_dvd (by omega) hed
        exact ⟨e, he, Nat.dvd_trans hed ⟨c, hc⟩, .inr (hc ▸ Nat.mul_le_mul hel (Nat.le_trans hel hle))⟩
      · obtain ⟨e, he, hed, _⟩ := ih c (by omega) (by omega)
        have hel := Nat.le_of_dvd (by omega) hed
        exact ⟨e, he, Nat.dvd_trans hed ⟨d, by rw [Nat.mul_comm]; exact hc⟩, .inr (hc ▸ Nat.mul_le_mul (Nat.le_trans hel hle) hel)⟩

/-- What each prime factor d of n has: d - 1 is a multiple of q, where q is a prime of n - 1 with a witness. -/
theorem pock_one {n q a d : Nat} (hq : Pr q) (hqn : q ∣ n - 1) (h1 : a ^ (n - 1) % n = 1) (hg : Nat.gcd ((a ^ ((n - 1) / q) + (n - 1)) % n) n = 1) (hn : 2 ≤ n) (hd : Pr d) (hdn : d ∣ n) : q ∣ d - 1 := by
  have h1d : a ^ (n - 1) % d = 1 % d := by
    rw [← Nat.mod_mod_of_dvd _ hdn, h1]
  have hda : ¬ d ∣ a := by
    intro hda
    have h0 : n - 1 ≠ 0 := by omega
    have : d ∣ a ^ (n - 1) := Nat.dvd_trans hda (Nat.dvd_of_pow_dvd (k := 1) (by omega) (by simpa using Nat.pow_dvd_pow a (show 1 ≤ n - 1 by omega)))
    rw [Nat.mod_eq_zero_of_dvd this] at h1d
    have := hd.1
    rw [Nat.mod_eq_of_lt (by omega)] at h1d
    omega
  have h2d : a ^ (d - 1) % d = 1 % d := by
    rw [fermat hd hda, Nat.mod_eq_of_lt (by have := hd.1; omega)]
  have hgc := pow_gcd_one d a _ _ h1d h2d
  apply Classical.byContradiction
  intro hno
  have hcop : Nat.Coprime q (Nat.gcd (n - 1) (d - 1)) := hq.cop (fun h => hno (Nat.dvd_trans h (Nat.gcd_dvd_right _ _)))
  have hdiv : Nat.gcd (n - 1) (d - 1) ∣ (n - 1) / q := by
    obtain ⟨c, hc⟩ := hqn
    have hqp := hq.pos
    rw [hc, Nat.mul_div_cancel_left _ hqp, ← hc]
    have : Nat.gcd (n - 1) (d - 1) ∣ q * c := hc ▸ Nat.gcd_dvd_left _ _
    exact hcop.symm.dvd_of_dvd_mul_left this
  have h3 := pow_dvd_one hgc hdiv
  have hdd : d ∣ (a ^ ((n - 1) / q) + (n - 1)) % n := by
    rw [Nat.dvd_mod_iff hdn]
    have e : a ^ ((n - 1) / q) + (n - 1) = (a ^ ((n - 1) / q) - 1) + n ∨ a ^ ((n - 1) / q) = 0 := by omega
    rcases e with e | e
    · rw [e]
      refine Nat.dvd_add ?_ hdn
      rcases Nat.eq_zero_or_pos (a ^ ((n - 1) / q)) with h0 | h0
      · rw [h0]; simp
      · exact dvd_sub_mod h3
    · rw [e] at h3
      have := hd.1
      rw [Nat.zero_mod, Nat.mod_eq_of_lt (by omega)] at h3
      omega
  have := Nat.dvd_gcd hdd hdn
  rw [hg] at this
  have := Nat.le_of_dvd (by omega) this
  have := hd.1
  omega

theorem Pr.ne_cop {p q : Nat} (hp : Pr p) (hq : Pr q) (h : p ≠ q) : Nat.Coprime p q := by
  refine hp.cop fun hd => ?_
  rcases hq.2 p hd with h1 | h1
  · have := hp.1; omega
  · exact h h1

/-- powers mod n, in time -/
def pw (n : Nat) : Nat → Nat → Nat → Nat → Nat
  | 0, _, _, acc => acc
  | f + 1, a, e, acc => if e = 0 then acc else pw n f (a * a % n) (e / 2) (if e % 2 = 1 then acc * a % n else acc)

theorem pw_is (n : Nat) : ∀ f a e acc, e < 2 ^ f → pw n f a e acc % n = acc * a ^ e % n
  | 0, a, e, acc, h => by
    have : e = 0 := by simpa using h
    subst this; simp [pw]
  | f + 1, a, e, acc, h => by
    rw [pw]
    split
    · subst e; simp
    · have hlt : e / 2 < 2 ^ f := by
        rw [Nat.pow_succ] at h; omega
      rw [pw_is n f _ _ _ hlt]
      have e1 : a ^ e = (a * a) ^ (e / 2) * a ^ (e % 2) := by
        rw [← Nat.pow_two, ← Nat.pow_mul, ← Nat.pow_add, Nat.div_add_mod]
      have e2 : (a * a % n) ^ (e / 2) % n = (a * a) ^ (e / 2) % n := (Nat.pow_mod _ _ _).symm
      rw [e1]
      split
      · rename_i h1
        rw [h1, Nat.pow_one, Nat.mul_mod, e2, Nat.mod_mod, ← Nat.mul_mod]
        congr 1
        rw [Nat.mul_assoc, Nat.mul_comm a]
      · rename_i h1
        have : e % 2 = 0 := by omega
        rw [this, Nat.pow_zero, Nat.mul_one, Nat.mul_mod, e2, ← Nat.mul_mod]

def pwm (n a e : Nat) : Nat := pw n 300 a e 1 % n

theorem pwm_is (n a e : Nat) (h : e < 2 ^ 300) : pwm n a e = a ^ e % n := by
  rw [pwm, pw_is n 300 a e 1 h, Nat.one_mul]

def pockOk (n q a : Nat) : Bool :=
  Nat.beq ((n - 1) % q) 0 && Nat.beq (pwm n a (n - 1)) 1 && Nat.beq (Nat.gcd ((pwm n a ((n - 1) / q) + (n - 1)) % n) n) 1

theorem pock_use {n q a d : Nat} (hn : 2 ≤ n) (hn2 : n < 2 ^ 300) (hq : Pr q) (h : pockOk n q a = true) (hd : Pr d) (hdn : d ∣ n) : q ∣ d - 1 := by
  simp only [pockOk, Bool.and_eq_true, Nat.beq_eq] at h
  obtain ⟨⟨h0, h1⟩, h2⟩ := h
  have hle : (n - 1) / q < 2 ^ 300 := Nat.lt_of_le_of_lt (Nat.div_le_self _ _) (by omega)
  rw [pwm_is _ _ _ (by omega)] at h1
  rw [pwm_is _ _ _ hle] at h2
  refine pock_one hq (Nat.dvd_of_mod_eq_zero h0) h1 ?_ hn hd hdn
  rw [Nat.add_mod (a ^ ((n - 1) / q)), ← Nat.add_mod_mod, Nat.mod_mod, ← Nat.add_mod] at *
  simpa using h2

/-- A test by the primes of a list. -/
theorem pock {n F : Nat} (hn : 2 ≤ n) (hF : n < F * F) (h : ∀ d, Pr d → d ∣ n → F ∣ d - 1) : Pr n := by
  obtain ⟨d, hd, hdn, hor⟩ := least_factor n hn
  rcases hor with h1 | h1
  · exact h1
  · exfalso
    have h2 := Nat.le_of_dvd (by have := hd.1; omega) (h d hd hdn)
    have h3 : F * F ≤ d * d := Nat.mul_le_mul (by omega) (by omega)
    omega

/-- trial division -/
def tr (n : Nat) : Nat → Nat → Bool
  | 0, _ => true
  | f + 1, d => if Nat.beq (n % d) 0 then false else tr n f (d + 1)

theorem tr_is (n : Nat) : ∀ f d, tr n f d = true → ∀ e, d ≤ e → e < d + f → ¬ e ∣ n
  | 0, d, _, e, h1, h2 => by omega
  | f + 1, d, h, e, h1, h2 => by
    rw [tr] at h
    split at h
    · cases h
    · rename_i hne
      by_cases he : e = d
      · subst he
        intro hd
        exact hne (by rw [Nat.mod_eq_zero_of_dvd hd]; rfl)
      · exact tr_is n f (d + 1) h e (by omega) (by omega)

theorem small_prime {n f : Nat} (hn : 2 ≤ n) (hf : n < (f + 2) * (f + 2)) (h : tr n f 2 = true) : Pr n := by
  obtain ⟨d, hd, hdn, hor⟩ := least_factor n hn
  rcases hor with h1 | h1
  · exact h1
  · exfalso
    refine tr_is n f 2 h d hd.1 ?_ hdn
    apply Classical.byContradiction
    intro hge
    have : (f + 2) * (f + 2) ≤ d * d := Nat.mul_le_mul (by omega) (by omega)
    omega

end Ec
