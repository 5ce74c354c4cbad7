/- Package limb: Montgomery's way. No conditions but that numbers are below the modulus. -/
import Derived.Test.YtildcmggcbdhpaaLimbB
namespace Go.Proofs.Ytildcmggcbdhpaa
open Go.Ex Go.RowKit Lim

/-- a limb.Mont -/
def montE (g m r2 inv : Nat) : Ent := ⟨g, [U (l0 m), U (l1 m), U (l2 m), U (l3 m), U (l0 r2), U (l1 r2), U (l2 r2), U (l3 r2), U inv], [], 153, false⟩
abbrev PT (g : Nat) : Value := .pointer (some ⟨g, 0, none⟩)

def rq (inv : Nat) (ws : List Nat) : Nat := ws.headD 0 * inv % B
def rrow (inv : Nat) (ms ws : List Nat) : List Nat × Nat := mrow (rq inv ws) ms (ws.take 4) 0
def rprop (inv : Nat) (ms ws : List Nat) : List Nat × Nat := prop (ws.drop 4) (rrow inv ms ws).2
def rws (inv : Nat) (ms ws : List Nat) : List Nat := (rrow inv ms ws).1.tail ++ (rprop inv ms ws).1

def propRecs (d : Nat) : List Nat → Nat → List Rec
  | o :: os, c => addF d o c 0 :: propRecs d os ((o + c + 0) / B)
  | [], _ => []
theorem propRecs_ok (d : Nat) (w : World) : ∀ (os : List Nat) (c : Nat), RecsOk w (propRecs d os c)
  | o :: os, c => ⟨addF_ok (by omega), propRecs_ok d w os _⟩
  | [], _ => trivial

def redRecs (inv : Nat) (ms : List Nat) : Nat → List Nat → Nat → List Rec
  | 0, _, _ => []
  | n + 1, ws, top => rn 28 (.int .u64 (IntKind.u64.wrap ((ws.headD 0 : Nat) * (inv : Nat)))) (U (rq inv ws)) ::
      (mrecs 50 55 59 68 (rq inv ws) ms (ws.take 4) 0 ++ (propRecs 83 (ws.drop 4) (rrow inv ms ws).2 ++
        (rn 89 (.int .u64 (IntKind.u64.wrap ((top : Nat) + ((rprop inv ms ws).2 : Nat)))) (U (top + (rprop inv ms ws).2)) ::
          redRecs inv ms n (rws inv ms ws) (top + (rprop inv ms ws).2))))

theorem prop_le : ∀ (os : List Nat) (c : Nat), Dig os → c < B → 0 < os.length → (prop os c).2 ≤ 1
  | [o], c, ho, hc, _ => by
    have h1 := ho.head
    have hc' : (o + c + 0) / B < 2 := Nat.div_lt_of_lt_mul (by omega)
    show (o + c + 0) / B ≤ 1
    omega
  | o :: p :: os, c, ho, hc, _ => by
    have h1 := ho.head
    have hc' : (o + c + 0) / B < 2 := Nat.div_lt_of_lt_mul (by omega)
    have hB : 2 < B := by decide
    exact prop_le (p :: os) _ ho.tail (by omega) (by simp)

theorem dig_take {l : List Nat} (h : Dig l) (n : Nat) : Dig (l.take n) := fun x hx => h x (List.mem_of_mem_take hx)
theorem dig_drop {l : List Nat} (h : Dig l) (n : Nat) : Dig (l.drop n) := fun x hx => h x (List.mem_of_mem_drop hx)

theorem round_spec {inv : Nat} {ms ws : List Nat} {top n : Nat} (hm : Dig ms) (hml : ms.length = 4) (hw : Dig ws) (hwl : ws.length = n + 5) (hinv : (val ms * inv + 1) % B = 0) :
    B * (val (rws inv ms ws) + B ^ (n + 4) * (top + (rprop inv ms ws).2)) = rq inv ws * val ms + (val ws + B ^ (n + 5) * top) ∧ Dig (rws inv ms ws) ∧ (rws inv ms ws).length = n + 4 ∧ (rprop inv ms ws).2 ≤ 1 := by
  have hq : rq inv ws < B := Nat.mod_lt _ B_pos
  obtain ⟨e1, e2, e3, e4⟩ := mrow_spec (rq inv ws) hq ms (ws.take 4) 0 hm (dig_take hw 4) (by rw [List.length_take, hml]; omega) B_pos
  obtain ⟨p1, p2, p3, p4⟩ := prop_spec (ws.drop 4) (mrow (rq inv ws) ms (ws.take 4) 0).2 (dig_drop hw 4) e4
  have hle := prop_le (ws.drop 4) (mrow (rq inv ws) ms (ws.take 4) 0).2 (dig_drop hw 4) e4 (by rw [List.length_drop]; omega)
  have hv : val ws = val (ws.take 4) + B ^ 4 * val (ws.drop 4) := by
    conv => lhs; rw [← List.take_append_drop 4 ws]
    rw [val_append, List.length_take, hwl, Nat.min_eq_left (by omega)]
  have e0 : (mrow (rq inv ws) ms (ws.take 4) 0).1 = (mrow (rq inv ws) ms (ws.take 4) 0).1.headD 0 :: (mrow (rq inv ws) ms (ws.take 4) 0).1.tail := head_tail (by omega)
  have hd0 : (mrow (rq inv ws) ms (ws.take 4) 0).1.headD 0 < B := by
    have : Dig ((mrow (rq inv ws) ms (ws.take 4) 0).1.headD 0 :: (mrow (rq inv ws) ms (ws.take 4) 0).1.tail) := by rw [← e0]; exact e2
    exact this.head
  have hv0 : val (mrow (rq inv ws) ms (ws.take 4) 0).1 = (mrow (rq inv ws) ms (ws.take 4) 0).1.headD 0 + B * val (mrow (rq inv ws) ms (ws.take 4) 0).1.tail := by
    conv => lhs; rw [e0]
    rfl
  have hz : (mrow (rq inv ws) ms (ws.take 4) 0).1.headD 0 = 0 := by
    have hws : val (ws.take 4) % B = ws.headD 0 % B := by
      cases ws with
      | nil => simp at hwl
      | cons x l => simp only [List.take_succ_cons, val, List.headD_cons]; rw [Nat.add_mul_mod_self_left]
    have h4 : B ^ ms.length = B * B ^ 3 := by rw [hml]; decide
    rw [hv0, h4] at e1
    have e1' := congrArg (· % B) e1
    rw [Nat.add_assoc, Nat.mul_assoc, ← Nat.mul_add, Nat.add_mul_mod_self_left, Nat.mod_eq_of_lt hd0, Nat.add_zero] at e1'
    rw [e1', Nat.add_mod, hws, ← Nat.add_mod]
    have : rq inv ws * val ms % B = ws.headD 0 * (val ms * inv) % B := by
      unfold rq
      rw [Nat.mod_mul_mod]
      congr 1
      rw [Nat.mul_comm (val ms), Nat.mul_assoc]
    rw [Nat.add_mod, this, ← Nat.add_mod, show ws.headD 0 * (val ms * inv) + ws.headD 0 = ws.headD 0 * (val ms * inv + 1) by rw [Nat.mul_add, Nat.mul_one], Nat.mul_mod, hinv, Nat.mul_zero, Nat.zero_mod]
  have ht : (mrow (rq inv ws) ms (ws.take 4) 0).1.tail.length = 3 := by rw [List.length_tail, e3, hml]
  refine ⟨?_, Dig.append (fun x hx => e2 x (List.mem_of_mem_tail hx)) p2, ?_, hle⟩
  · unfold rws rprop rrow
    rw [val_append, ht]
    rw [hz, Nat.zero_add] at hv0
    rw [hv0, hml] at e1
    rw [List.length_drop, hwl, show n + 5 - 4 = n + 1 by omega] at p1
    rw [hv, show B ^ (n + 4) = B ^ 3 * B ^ (n + 1) by rw [← Nat.pow_add]; congr 1; omega, show B ^ (n + 5) = B ^ 4 * B ^ (n + 1) by rw [← Nat.pow_add]; congr 1; omega]
    have h43 : B ^ 4 = B * B ^ 3 := by decide
    generalize (mrow (rq inv ws) ms (ws.take 4) 0).1.tail = A at *
    generalize (mrow (rq inv ws) ms (ws.take 4) 0).2 = c at *
    generalize hpp : (prop (ws.drop 4) c) = pp at *
    generalize rq inv ws * val ms = qm at *
    have p1' := congrArg (B ^ 4 * ·) p1
    simp only [Nat.mul_add] at p1'
    rw [h43] at e1 p1' ⊢
    generalize B ^ 3 = b3 at *
    generalize B ^ (n + 1) = bn at *
    simp only [Nat.mul_add, Nat.mul_assoc] at e1 p1' ⊢
    rw [Nat.mul_left_comm]
    rw [Nat.mul_left_comm] at e1 p1'
    grind
  · unfold rws rprop rrow
    rw [List.length_append, ht, p3, List.length_drop, hwl]
    omega


def rst (inv : Nat) (ms : List Nat) : Nat → List Nat → Nat → List Nat × Nat
  | 0, ws, top => (ws, top)
  | n + 1, ws, top => rst inv ms n (rws inv ms ws) (top + (rprop inv ms ws).2)

theorem rst_spec {inv : Nat} {ms : List Nat} (hm : Dig ms) (hml : ms.length = 4) (hinv : (val ms * inv + 1) % B = 0) : ∀ (n : Nat) (ws : List Nat) (top : Nat), Dig ws → ws.length = n + 4 →
    ∃ q, q < B ^ n ∧ B ^ n * (val (rst inv ms n ws top).1 + B ^ 4 * (rst inv ms n ws top).2) = q * val ms + (val ws + B ^ (n + 4) * top) ∧ Dig (rst inv ms n ws top).1 ∧ (rst inv ms n ws top).1.length = 4
  | 0, ws, top, hw, hl => ⟨0, by simp, by simp [rst], hw, hl⟩
  | n + 1, ws, top, hw, hl => by
    obtain ⟨r1, r2, r3, r4⟩ := round_spec (n := n) (top := top) hm hml hw (by omega) hinv
    obtain ⟨q, q1, q2, q3, q4⟩ := rst_spec hm hml hinv n (rws inv ms ws) (top + (rprop inv ms ws).2) r2 r3
    have hq : rq inv ws < B := Nat.mod_lt _ B_pos
    refine ⟨rq inv ws + B * q, ?_, ?_, q3, q4⟩
    · have : B * (q + 1) ≤ B * B ^ n := Nat.mul_le_mul_left B q1
      rw [Nat.pow_succ, Nat.mul_comm (B ^ n)]
      rw [Nat.mul_add] at this
      omega
    · show B ^ (n + 1) * (val (rst inv ms n (rws inv ms ws) (top + (rprop inv ms ws).2)).1 + B ^ 4 * (rst inv ms n (rws inv ms ws) (top + (rprop inv ms ws).2)).2) = _
      rw [Nat.pow_succ, Nat.mul_comm (B ^ n) B, Nat.mul_assoc, q2, Nat.mul_add, r1, Nat.add_mul, Nat.mul_assoc]
      rw [show n + 1 + 4 = n + 5 by omega]
      omega

theorem redRecs_ok {inv : Nat} {ms : List Nat} (w : World) (hm : Dig ms) (hml : ms.length = 4) (hinv : (val ms * inv + 1) % B = 0) : ∀ (n : Nat) (ws : List Nat) (top : Nat), Dig ws → ws.length = n + 4 → top + n < B →
    RecsOk w (redRecs inv ms n ws top)
  | 0, _, _, _, _, _ => trivial
  | n + 1, ws, top, hw, hl, ht => by
    obtain ⟨r1, r2, r3, r4⟩ := round_spec (n := n) (top := top) hm hml hw (by omega) hinv
    have hq : rq inv ws < B := Nat.mod_lt _ B_pos
    refine ⟨rn_ok ?_, (mrecs_ok 50 55 59 68 w hq ms (ws.take 4) 0 hm (dig_take hw 4) B_pos).append ((propRecs_ok 83 w _ _).append ⟨rn_ok ?_, redRecs_ok w hm hml hinv n _ _ r2 r3 (by omega)⟩)⟩
    · rw [← Int.natCast_mul, wrapU]
      unfold rq U B
      congr 1
    · rw [← Int.natCast_add, wrap_in (by omega)]

/-- R^-1 w mod m -/
def redc (m w : Nat) : Nat := w * ((m + 1) / 2) ^ 256 % m

theorem redc_uniq {m v w : Nat} (hodd : m % 2 = 1) (h1 : 1 < m) (hv : v < m) (h : v * R % m = w % m) : v = redc m w := by
  have h2 : (m + 1) / 2 * 2 = m + 1 := by omega
  have h3 : R * ((m + 1) / 2) ^ 256 % m = 1 := by
    rw [show R = 2 ^ 256 from by decide, ← Nat.mul_pow, Nat.mul_comm 2, h2, Nat.pow_mod, Nat.add_mod_left, Nat.mod_eq_of_lt h1, Nat.one_pow, Nat.mod_eq_of_lt h1]
  unfold redc
  rw [← Nat.mod_mul_mod, ← h, Nat.mod_mul_mod, Nat.mul_assoc, Nat.mul_mod, h3, Nat.mul_one, Nat.mod_mod, Nat.mod_eq_of_lt hv]
theorem redc_lt {m w : Nat} (h1 : 1 < m) : redc m w < m := Nat.mod_lt _ (by omega)

theorem red_end {m inv w : Nat} (hm : m < R) (hodd : m % 2 = 1) (h1 : 1 < m) (hinv : (m * inv + 1) % B = 0) (hw : w < m * R) :
    ∃ t top, rst inv (L4 m) 4 (digs 8 w) 0 = (L4 t, top) ∧ t < R ∧ ((top = 0 ∧ t < m ∧ redc m w = t) ∨ (top = 0 ∧ m ≤ t ∧ redc m w = (t + R - m) % R) ∨ (top = 1 ∧ t < m ∧ redc m w = (t + R - m) % R)) := by
  have hwR : w < B ^ 8 := by
    have : m * R ≤ R * R := Nat.mul_le_mul_right R (by omega)
    have : R * R = B ^ 8 := by decide
    omega
  obtain ⟨q, q1, q2, q3, q4⟩ := rst_spec (inv := inv) (L4_dig m) rfl (by rw [L4_val hm]; exact hinv) 4 (digs 8 w) 0 (digs_dig 8 w) (digs_length 8 w)
  rw [L4_val hm, val_digs, Nat.mod_eq_of_lt hwR, Nat.mul_zero, Nat.add_zero, ← R_eq] at q2
  have q5 := val_lt _ q3
  rw [q4, ← R_eq] at q5
  refine ⟨val (rst inv (L4 m) 4 (digs 8 w) 0).1, (rst inv (L4 m) 4 (digs 8 w) 0).2, ?_, q5, ?_⟩
  · have := digs_val _ q3
    rw [q4] at this
    exact Prod.ext this.symm rfl
  · generalize val (rst inv (L4 m) 4 (digs 8 w) 0).1 = t at *
    generalize (rst inv (L4 m) 4 (digs 8 w) 0).2 = top at *
    have hqm : (q + 1) * m ≤ R * m := Nat.mul_le_mul_right m (by rw [R_eq]; exact q1)
    rw [Nat.add_mul, Nat.one_mul] at hqm
    have hlt : R * (t + R * top) < R * (2 * m) := by
      rw [q2, show R * (2 * m) = R * m + R * m by rw [← Nat.mul_add]; congr 1; omega]
      rw [Nat.mul_comm m R] at hw
      omega
    have hT : t + R * top < 2 * m := Nat.lt_of_mul_lt_mul_left hlt
    have key : ∀ v, v < m → (v = t + R * top ∨ v + m = t + R * top) → redc m w = v := by
      intro v hv hor
      refine (redc_uniq hodd h1 hv ?_).symm
      have : (t + R * top) * R % m = w % m := by rw [Nat.mul_comm, q2, Nat.add_comm, Nat.add_mul_mod_self_right]
      rcases hor with rfl | h
      · exact this
      · rw [← h, Nat.add_mul, Nat.add_mul_mod_self_left] at this
        exact this
    have htop : top = 0 ∨ top = 1 := by
      have : top < 2 := by
        apply Nat.lt_of_mul_lt_mul_left (a := R)
        omega
      omega
    rcases htop with rfl | rfl
    · by_cases hlt : t < m
      · exact .inl ⟨rfl, hlt, key t hlt (by simp)⟩
      · refine .inr (.inl ⟨rfl, by omega, ?_⟩)
        rw [show t + R - m = (t - m) + R by omega, Nat.add_mod_right, Nat.mod_eq_of_lt (by omega)]
        exact key (t - m) (by omega) (.inr (by omega))
    · refine .inr (.inr ⟨rfl, by omega, ?_⟩)
      rw [Nat.mod_eq_of_lt (by omega)]
      exact key (t + R - m) (by omega) (.inr (by omega))

theorem or_sel {a b c : Nat} (h : (a = 0 ∧ b = 0 ∧ c = 1) ∨ (a = 0 ∧ b = 1 ∧ c = 0) ∨ (a = 1 ∧ b = 1 ∧ c = 1) ∨ (a = 1 ∧ b = 0 ∧ c = 1)) : (.int .u64 (bits .or .u64 (a : Nat) (IntKind.u64.wrap (1 - ((b : Nat) : Int)))) : Value) = U c := by
  rcases h with ⟨rfl, rfl, rfl⟩ | ⟨rfl, rfl, rfl⟩ | ⟨rfl, rfl, rfl⟩ | ⟨rfl, rfl, rfl⟩ <;> kernel_rfl

theorem f129_raw {g m r2 inv w s x c : Nat} {v : Nat} (hm : m < R) (hinv : (m * inv + 1) % B = 0)
    (h118 : Pure 118 [aggU (rst inv (L4 m) 4 (digs 8 w) 0).1, NV m] (.tuple #[NV x, U c])) (hs : (.int .u64 (bits .or .u64 ((rst inv (L4 m) 4 (digs 8 w) 0).2 : Nat) (IntKind.u64.wrap (1 - ((c : Nat) : Int)))) : Value) = U s)
    (h119 : Pure 119 [U s, NV x, aggU (rst inv (L4 m) 4 (digs 8 w) 0).1] (NV v)) : PureAt [montE g m r2 inv] 129 [PT g, WV w] (NV v) :=
  pureAt_of Try.func129 rfl 8 [(PT g, .at_ 0), (WV w, .no)] [montE g m r2 inv] (redRecs inv (L4 m) 4 (digs 8 w) 0 ++
    [pc 118 [aggU (rst inv (L4 m) 4 (digs 8 w) 0).1, NV m] (.tuple #[NV x, U c]), rn 112 (.int .u64 (bits .or .u64 ((rst inv (L4 m) 4 (digs 8 w) 0).2 : Nat) (IntKind.u64.wrap (1 - ((c : Nat) : Int))))) (U s), pc 119 [U s, NV x, aggU (rst inv (L4 m) 4 (digs 8 w) 0).1] (NV v)]) (NV v) rfl
    (fun w0 => (redRecs_ok w0 (L4_dig m) rfl (by rw [L4_val hm]; exact hinv) 4 (digs 8 w) 0 (digs_dig 8 w) (digs_length 8 w) (by decide)).append ⟨pc_ok h118, rn_ok hs, pc_ok h119, trivial⟩) (fun γ => by kernel_rfl)

theorem f129_ok {g m r2 inv w : Nat} (hm : m < R) (hodd : m % 2 = 1) (h1 : 1 < m) (hinv : (m * inv + 1) % B = 0) (hw : w < m * R) : PureAt [montE g m r2 inv] 129 [PT g, WV w] (NV (redc m w)) := by
  obtain ⟨t, top, e, ht, hc⟩ := red_end hm hodd h1 hinv hw
  have a118 := f118_ok ht hm
  have e4 : (rst inv (L4 m) 4 (digs 8 w) 0).1 = L4 t := by rw [e]
  have e5 : (rst inv (L4 m) 4 (digs 8 w) 0).2 = top := by rw [e]
  have eN : aggU (L4 t) = NV t := rfl
  rcases hc with ⟨rfl, h2, h3⟩ | ⟨rfl, h2, h3⟩ | ⟨rfl, h2, h3⟩
  · rw [if_pos h2] at a118
    exact f129_raw (s := 0) hm hinv (by rw [e4]; exact a118) (by rw [e5]; exact or_sel (.inr (.inl ⟨rfl, rfl, rfl⟩))) (by rw [e4, h3]; exact f119_zero _ _)
  · rw [if_neg (by omega)] at a118
    exact f129_raw (s := 1) hm hinv (by rw [e4]; exact a118) (by rw [e5]; exact or_sel (.inl ⟨rfl, rfl, rfl⟩)) (by rw [e4, h3]; exact f119_one _ _)
  · rw [if_pos h2] at a118
    exact f129_raw (s := 1) hm hinv (by rw [e4]; exact a118) (by rw [e5]; exact or_sel (.inr (.inr (.inl ⟨rfl, rfl, rfl⟩)))) (by rw [e4, h3]; exact f119_one _ _)

end Go.Proofs.Ytildcmggcbdhpaa
