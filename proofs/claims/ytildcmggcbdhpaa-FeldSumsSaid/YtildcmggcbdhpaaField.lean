/- Package field: the two fields are made; sums, differences, products. No conditions but that numbers are below the modulus. Package field: sums, differences, products, negatives. No conditions but that numbers are below the modulus. Package field: powers, inverses, roots. No conditions but that numbers are below the modulus. -/
import Derived.Test.YtildcmggcbdhpaaLimb
namespace Go.Proofs.Ytildcmggcbdhpaa
open Go.Ex Go.RowKit Lim

/-- A function that makes blocks. -/
def Makes (f : FuncId) (args : List Value) (k : Nat) (val : (Nat → Nat) → Value) (news : (Nat → Nat) → List Ent) : Prop :=
  ∀ w : World, Calls Try.prog f args.toArray w fun e w' => ∃ δ : Nat → Nat, (∀ q, k ≤ q → δ q = 0) ∧ e = .returned (val δ) ∧ Below w.heap.size w w' ∧
    (∀ e ∈ news δ, e.holds w' ∧ w.heap.size ≤ e.g) ∧ (news δ).Pairwise (fun a b => a.g ≠ b.g)
def nc (f : FuncId) (args : List Value) (k : Nat) (val : (Nat → Nat) → Value) (news : (Nat → Nat) → List Ent) (tag : Tag) : Rec := .call f (fun _ => args) (fun _ => []) k val news tag
theorem nc_ok {w : World} {f : FuncId} {args : List Value} {k : Nat} {val : (Nat → Nat) → Value} {news : (Nat → Nat) → List Ent} {tag : Tag} (h : Makes f args k val news) : (nc f args k val news tag).Ok Try.prog w := fun _ w _ _ => h w

/-- the numbers that are handed out -/
def pick (k : Nat) (ix : Nat → Nat) (γ : Nat → Nat) : Nat → Nat := fun q => if q < k then γ (ix q) else 0

theorem zip_pairwise (l : List Ent) : ∀ (pos : List Nat) (R : Nat × Ent → Nat × Ent → Prop), pos.Nodup → pos.length = l.length → (∀ p ∈ pos.zip l, ∀ q ∈ pos.zip l, p.1 ≠ q.1 → R p q) → (pos.zip l).Pairwise R := by
  induction l with
  | nil => intro pos R _ h _; simp
  | cons e l ih =>
    intro pos R hn hl h
    cases pos with
    | nil => simp
    | cons i pos =>
      simp only [List.zip_cons_cons, List.pairwise_cons]
      rw [List.nodup_cons] at hn
      refine ⟨fun q hq => h (i, e) (by simp) q (by simp [hq]) ?_, ih pos R hn.2 (by simpa using hl) fun p hp q hq => h p (by simp [hp]) q (by simp [hq])⟩
      intro he
      have := (List.of_mem_zip (a := q.1) (b := q.2) (by simpa using hq)).1
      rw [← he] at this
      exact hn.1 this

theorem makes_at {f : FuncId} {fn : Func} (hf : Try.prog.funcs[f]? = some fn) (hb : fn.body = some (Fx fn)) (K : Nat) (args : List (Value × Tag)) (hp : List Ent) (recs : List Rec) (k : Nat) (ix : Nat → Nat) (pos : List Nat) (val : (Nat → Nat) → Value) (news : (Nat → Nat) → List Ent)
    (w : World) (hhp : ∀ e ∈ hp, e.own = false ∧ e.holds w) (hrecs : ∀ w, RecsOk w recs) (hpos : pos.Nodup) (hlen : ∀ δ, pos.length = (news δ).length) (hown : ∀ δ, ∀ e ∈ news δ, e.own = true)
    (heq : ∀ γ : Nat → Nat, outL Try.prog fn.results.toList (pos.zip (news (pick k ix γ))) (exec Try.prog (Fx fn) ⟨Ex.start fn.ntmps args hp, (List.range K).map γ, recs, []⟩) =
      outR Try.prog fn.results.toList (pos.zip (news (pick k ix γ))) (val (pick k ix γ)) (exec Try.prog (Fx fn) ⟨Ex.start fn.ntmps args hp, (List.range K).map γ, recs, []⟩)) :
    Calls Try.prog f (args.map (·.1)).toArray w fun e w' => ∃ δ : Nat → Nat, (∀ q, k ≤ q → δ q = 0) ∧ e = .returned (val δ) ∧ Below w.heap.size w w' ∧
      (∀ e ∈ news δ, e.holds w' ∧ w.heap.size ≤ e.g) ∧ (news δ).Pairwise (fun a b => a.g ≠ b.g) := by
  have h := calls hf hb follows K args hp recs (fun γ => val (pick k ix γ)) (fun γ => pos.zip (news (pick k ix γ))) w hhp (hrecs w).all heq
  refine h.mono ?_
  rintro e w' ⟨γ, h1, h2, h3, h4⟩
  refine ⟨pick k ix γ, fun q hq => if_neg (by omega), h1, h2, fun e he => ?_, ?_⟩
  · obtain ⟨i, hi⟩ := List.getElem_of_mem he
    obtain ⟨hi1, hi2⟩ := hi
    have hm : ((pos[i]'(by rw [hlen (pick k ix γ)]; exact hi1)), e) ∈ pos.zip (news (pick k ix γ)) := by
      rw [List.mem_iff_getElem]
      exact ⟨i, by rw [List.length_zip, hlen (pick k ix γ)]; simpa using hi1, by rw [List.getElem_zip, hi2]⟩
    have := h3 _ hm
    exact ⟨this.1, this.2 (hown _ e he)⟩
  · have hz := zip_pairwise (news (pick k ix γ)) pos (fun a b => a.2.g ≠ b.2.g) hpos (hlen _) fun p hpm q hqm hne => h4 p hpm q hqm hne (hown _ _ (List.of_mem_zip (a := p.1) (b := p.2) hpm).2)
    have e1 : (news (pick k ix γ)) = (pos.zip (news (pick k ix γ))).map (·.2) := by
      rw [List.map_snd_zip]
      rw [hlen (pick k ix γ)]
      exact Nat.le_refl _
    rw [e1, List.pairwise_map]
    exact hz

def P : Nat := 115792089237316195423570985008687907853269984665640564039457584007908834671663
def Q : Nat := 115792089237316195423570985008687907852837564279074904382605163141518161494337
def P2 : Nat := R * R % P
def Q2 : Nat := R * R % Q
def Pi : Nat := 15580212934572586289
def Qi : Nat := 5408259542528602431
/-- the exponent of a root -/
def rt : Nat := (P + 1) / 4
theorem montP : Mont P P2 Pi := ⟨by decide, by decide, by decide, by decide, rfl⟩
theorem montQ : Mont Q Q2 Qi := ⟨by decide, by decide, by decide, by decide, rfl⟩

def montO (g m r2 inv : Nat) : Ent := ⟨g, [U (l0 m), U (l1 m), U (l2 m), U (l3 m), U (l0 r2), U (l1 r2), U (l2 r2), U (l3 r2), U inv], [], 153, true⟩

def newV (δ : Nat → Nat) : Value := .tuple #[PT (δ 0), I 0]
/-- limb.NewMont -/
theorem f77_P : Makes 77 [NV P] 1 newV (fun δ => [montO (δ 0) P P2 Pi]) := fun w =>
  makes_at Try.func77 rfl 8 [(NV P, .no)] [] [pc 115 [WV R, NV P] (.tuple #[NV (R % P), I 0]), pc 116 [NV (R % P), NV (R % P)] (WV (R % P * (R % P))), pc 115 [WV (R % P * (R % P)), NV P] (.tuple #[NV (R % P * (R % P) % P), I 0])]
    1 (fun _ => 3) [3] newV _ w (fun e he => by cases he)
    (fun _ => ⟨pc_ok (f115_ok (by decide) (by decide) (by decide)), pc_ok (f116_ok (by decide) (by decide)), pc_ok (f115_ok (by decide) (by decide) (by decide)), trivial⟩) (by decide) (fun _ => rfl) (fun δ e he => by simp at he; subst he; rfl) (fun γ => by kernel_rfl)
theorem f77_Q : Makes 77 [NV Q] 1 newV (fun δ => [montO (δ 0) Q Q2 Qi]) := fun w =>
  makes_at Try.func77 rfl 8 [(NV Q, .no)] [] [pc 115 [WV R, NV Q] (.tuple #[NV (R % Q), I 0]), pc 116 [NV (R % Q), NV (R % Q)] (WV (R % Q * (R % Q))), pc 115 [WV (R % Q * (R % Q)), NV Q] (.tuple #[NV (R % Q * (R % Q) % Q), I 0])]
    1 (fun _ => 3) [3] newV _ w (fun e he => by cases he)
    (fun _ => ⟨pc_ok (f115_ok (by decide) (by decide) (by decide)), pc_ok (f116_ok (by decide) (by decide)), pc_ok (f115_ok (by decide) (by decide) (by decide)), trivial⟩) (by decide) (fun _ => rfl) (fun δ e he => by simp at he; subst he; rfl) (fun γ => by kernel_rfl)

/-- a field.Field -/
def fieldE (g h m root : Nat) (tg : List Tag) (own : Bool) : Ent := ⟨g, [U (l0 m), U (l1 m), U (l2 m), U (l3 m), PT h, U (l0 root), U (l1 root), U (l2 root), U (l3 root)], tg, 121, own⟩

def baseN (δ : Nat → Nat) : List Ent := [montO (δ 0) P P2 Pi, fieldE (δ 1) (δ 0) P rt [] true]
def scalN (δ : Nat → Nat) : List Ent := [montO (δ 0) Q Q2 Qi, fieldE (δ 1) (δ 0) Q 0 [] true]
def twoV (δ : Nat → Nat) : Value := PT (δ 1)


/-- field.Base -/
theorem f63_ok : Makes 63 [] 2 twoV baseN := fun w =>
  makes_at Try.func63 rfl 8 [] [] [nc 77 [NV P] 1 newV (fun δ => [montO (δ 0) P P2 Pi]) (.tup [.at_ 1, .no])] 2 (fun q => q + 1) [1, 2] twoV baseN w (fun e he => by cases he)
    (fun _ => ⟨nc_ok f77_P, trivial⟩) (by decide) (fun _ => rfl) (fun δ e he => by simp [baseN] at he; rcases he with rfl | rfl <;> rfl) (fun γ => by kernel_rfl)
/-- field.Scalars -/
theorem f29_ok : Makes 29 [] 2 twoV scalN := fun w =>
  makes_at Try.func29 rfl 8 [] [] [nc 77 [NV Q] 1 newV (fun δ => [montO (δ 0) Q Q2 Qi]) (.tup [.at_ 1, .no])] 2 (fun q => q + 1) [1, 2] twoV scalN w (fun e he => by cases he)
    (fun _ => ⟨nc_ok f77_Q, trivial⟩) (by decide) (fun _ => rfl) (fun δ e he => by simp [scalN] at he; rcases he with rfl | rfl <;> rfl) (fun γ => by kernel_rfl)

/-- (field.Field).Modulus -/
theorem f99_ok (g h m root : Nat) : PureAt [fieldE g h m root [] false] 99 [PT g] (NV m) :=
  pureAt_of Try.func99 rfl 8 [(PT g, .at_ 0)] [fieldE g h m root [] false] [] _ rfl (fun _ => trivial) (fun γ => by kernel_rfl)

def fTg : List Tag := [.no, .no, .no, .no, .at_ 1]
/-- what a field's functions look at -/
def fN (g h m r2 inv root : Nat) : List Ent := [fieldE g h m root fTg false, montE h m r2 inv]

/-- (field.Field).Check -/
theorem f68_raw {g h m r2 inv root a : Nat} {q : Bool} (hm : m < R) (ha : a < R) (hq : decide (cmpN a m ≥ 0) = q) : PureAt (fN g h m r2 inv root) 68 [PT g, NV a] (I (if q then 20 else 0)) := by
  have hr : ∀ w, RecsOk w [pc 111 [NV a, NV m] (I (cmpN a m)), rn 15 (.bool (decide (cmpN a m ≥ 0))) (.bool q)] := fun w => ⟨pc_ok (f111_ok ha hm), rn_ok (by rw [hq]), trivial⟩
  cases q
  · exact pureAt_of Try.func68 rfl 8 [(PT g, .at_ 0), (NV a, .no)] (fN g h m r2 inv root) [pc 111 [NV a, NV m] (I (cmpN a m)), rn 15 (.bool (decide (cmpN a m ≥ 0))) (.bool false)] _ rfl hr (fun γ => by kernel_rfl)
  · exact pureAt_of Try.func68 rfl 8 [(PT g, .at_ 0), (NV a, .no)] (fN g h m r2 inv root) [pc 111 [NV a, NV m] (I (cmpN a m)), rn 15 (.bool (decide (cmpN a m ≥ 0))) (.bool true)] _ rfl hr (fun γ => by kernel_rfl)
theorem cmp_ge (a m : Nat) : decide (cmpN a m ≥ 0) = decide (m ≤ a) := by
  unfold cmpN
  split
  · rw [decide_eq_false (by omega), decide_eq_false (by omega)]
  · split <;> rw [decide_eq_true (by omega), decide_eq_true (by omega)]
theorem f68_in {g h m r2 inv root a : Nat} (hm : m < R) (ha : a < m) : PureAt (fN g h m r2 inv root) 68 [PT g, NV a] (I 0) :=
  f68_raw (q := false) hm (by omega) (by rw [cmp_ge, decide_eq_false (by omega)])
theorem f68_out {g h m r2 inv root a : Nat} (hm : m < R) (ha : m ≤ a) (haR : a < R) : PureAt (fN g h m r2 inv root) 68 [PT g, NV a] (I 20) :=
  f68_raw (q := true) hm haR (by rw [cmp_ge, decide_eq_true (by omega)])

end Go.Proofs.Ytildcmggcbdhpaa

namespace Go.Proofs.Ytildcmggcbdhpaa
open Go.Ex Go.RowKit Lim

theorem add_arith {m a b : Nat} (hm : m < R) (ha : a < m) (hb : b < m) :
    ∃ t, (((a + b) / R = 0 ∧ (if (a + b) % R < m then 1 else 0) = 0 ∧ t = 1) ∨ ((a + b) / R = 0 ∧ (if (a + b) % R < m then 1 else 0) = 1 ∧ t = 0) ∨ ((a + b) / R = 1 ∧ (if (a + b) % R < m then 1 else 0) = 1 ∧ t = 1) ∨ ((a + b) / R = 1 ∧ (if (a + b) % R < m then 1 else 0) = 0 ∧ t = 1)) ∧
      ((t = 1 ∧ (a + b) % m = ((a + b) % R + R - m) % R) ∨ (t = 0 ∧ (a + b) % m = (a + b) % R)) := by
  have hR : R = 115792089237316195423570985008687907853269984665640564039457584007913129639936 := rfl
  by_cases h1 : a + b < m
  · refine ⟨0, .inr (.inl ⟨Nat.div_eq_of_lt (by omega), ?_, rfl⟩), .inr ⟨rfl, ?_⟩⟩
    · rw [Nat.mod_eq_of_lt (by omega), if_pos h1]
    · rw [Nat.mod_eq_of_lt h1, Nat.mod_eq_of_lt (by omega)]
  · have e3 : (a + b) % m = a + b - m := by rw [Nat.mod_eq_sub_mod (by omega), Nat.mod_eq_of_lt (by omega)]
    by_cases h2 : a + b < R
    · refine ⟨1, .inl ⟨Nat.div_eq_of_lt h2, ?_, rfl⟩, .inl ⟨rfl, ?_⟩⟩
      · rw [Nat.mod_eq_of_lt h2, if_neg h1]
      · rw [e3, Nat.mod_eq_of_lt h2, show a + b + R - m = (a + b - m) + R by omega, Nat.add_mod_right, Nat.mod_eq_of_lt (by omega)]
    · have e1 : (a + b) % R = a + b - R := by rw [Nat.mod_eq_sub_mod (by omega), Nat.mod_eq_of_lt (by omega)]
      refine ⟨1, .inr (.inr (.inl ⟨?_, ?_, rfl⟩)), .inl ⟨rfl, ?_⟩⟩
      · apply Nat.div_eq_of_lt_le <;> omega
      · rw [e1, if_pos (by omega)]
      · rw [e3, e1, Nat.mod_eq_of_lt (by omega)]; omega

/-- (field.Field).plus -/
theorem f79_raw {g h m r2 inv root a b s o d c t r : Nat} (h1 : Pure 117 [NV a, NV b] (.tuple #[NV s, U o])) (h2 : Pure 118 [NV s, NV m] (.tuple #[NV d, U c])) (h3 : (.int .u64 (bits .or .u64 (o : Nat) (IntKind.u64.wrap (1 - ((c : Nat) : Int)))) : Value) = U t) (h4 : Pure 119 [U t, NV d, NV s] (NV r)) :
    PureAt (fN g h m r2 inv root) 79 [PT g, NV a, NV b] (NV r) :=
  pureAt_of Try.func79 rfl 8 [(PT g, .at_ 0), (NV a, .no), (NV b, .no)] (fN g h m r2 inv root) [pc 117 [NV a, NV b] (.tuple #[NV s, U o]), pc 118 [NV s, NV m] (.tuple #[NV d, U c]), rn 29 (.int .u64 (bits .or .u64 (o : Nat) (IntKind.u64.wrap (1 - ((c : Nat) : Int))))) (U t), pc 119 [U t, NV d, NV s] (NV r)] _ rfl
    (fun _ => ⟨pc_ok h1, pc_ok h2, rn_ok h3, pc_ok h4, trivial⟩) (fun γ => by kernel_rfl)
theorem f79_ok {g h m r2 inv root a b : Nat} (hm : m < R) (ha : a < m) (hb : b < m) : PureAt (fN g h m r2 inv root) 79 [PT g, NV a, NV b] (NV ((a + b) % m)) := by
  obtain ⟨t, h1, h2⟩ := add_arith hm ha hb
  refine f79_raw (f117_ok (by omega) (by omega)) (f118_ok (Nat.mod_lt _ (by decide)) hm) (or_sel h1) (t := t) ?_
  rcases h2 with ⟨rfl, e⟩ | ⟨rfl, e⟩
  · rw [e]; exact f119_one _ _
  · rw [e]; exact f119_zero _ _

/-- (field.Field).minus -/
theorem f120_raw {g h m r2 inv root a b s o d c r : Nat} (h1 : Pure 118 [NV a, NV b] (.tuple #[NV d, U c])) (h2 : Pure 117 [NV d, NV m] (.tuple #[NV s, U o])) (h4 : Pure 119 [U c, NV s, NV d] (NV r)) :
    PureAt (fN g h m r2 inv root) 120 [PT g, NV a, NV b] (NV r) :=
  pureAt_of Try.func120 rfl 8 [(PT g, .at_ 0), (NV a, .no), (NV b, .no)] (fN g h m r2 inv root) [pc 118 [NV a, NV b] (.tuple #[NV d, U c]), pc 117 [NV d, NV m] (.tuple #[NV s, U o]), pc 119 [U c, NV s, NV d] (NV r)] _ rfl
    (fun _ => ⟨pc_ok h1, pc_ok h2, pc_ok h4, trivial⟩) (fun γ => by kernel_rfl)
theorem sub_arith {m a b : Nat} (hm : m < R) (ha : a < m) (hb : b < m) : ((a < b) ∧ (a + m - b) % m = ((a + R - b) % R + m) % R) ∨ (¬ a < b ∧ (a + m - b) % m = (a + R - b) % R) := by
  have hR : R = 115792089237316195423570985008687907853269984665640564039457584007913129639936 := rfl
  by_cases h : a < b
  · refine .inl ⟨h, ?_⟩
    rw [Nat.mod_eq_of_lt (by omega), Nat.mod_eq_of_lt (a := a + R - b) (by omega), show a + R - b + m = (a + m - b) + R by omega, Nat.add_mod_right, Nat.mod_eq_of_lt (by omega)]
  · refine .inr ⟨h, ?_⟩
    rw [show a + m - b = (a - b) + m by omega, Nat.add_mod_right, Nat.mod_eq_of_lt (by omega), show a + R - b = (a - b) + R by omega, Nat.add_mod_right, Nat.mod_eq_of_lt (by omega)]
theorem f120_ok {g h m r2 inv root a b : Nat} (hm : m < R) (ha : a < m) (hb : b < m) : PureAt (fN g h m r2 inv root) 120 [PT g, NV a, NV b] (NV ((a + m - b) % m)) := by
  have h1 := f118_ok (a := a) (b := b) (by omega) (by omega)
  have h2 := f117_ok (a := (a + R - b) % R) (b := m) (Nat.mod_lt _ (by decide)) hm
  rcases sub_arith hm ha hb with ⟨hl, e⟩ | ⟨hl, e⟩
  · rw [if_pos hl] at h1
    rw [e]
    exact f120_raw h1 h2 (f119_one _ _)
  · rw [if_neg hl] at h1
    rw [e]
    exact f120_raw h1 h2 (f119_zero _ _)

theorem redc_R {m a : Nat} (hodd : m % 2 = 1) (h1 : 1 < m) : redc m (a * R) = a % m := by
  refine (redc_uniq hodd h1 (Nat.mod_lt _ (by omega)) ?_).symm
  rw [Nat.mod_mul_mod]

theorem redc_cong {m a b : Nat} (h : a % m = b % m) : redc m a = redc m b := by
  unfold redc
  rw [← Nat.mod_mul_mod, h, Nat.mod_mul_mod]

theorem redc_RR {m a b : Nat} (hodd : m % 2 = 1) (h1 : 1 < m) : redc m ((a * R % m) * (b * R % m)) = a * b * R % m := by
  rw [← redc_R (a := a * b * R) hodd h1]
  apply redc_cong
  rw [← Nat.mul_mod, Nat.mul_mul_mul_comm, ← Nat.mul_assoc]

theorem redc_R1 {m a b : Nat} (hodd : m % 2 = 1) (h1 : 1 < m) : redc m ((a * R % m) * b) = a * b % m := by
  rw [← redc_R (a := a * b) hodd h1]
  apply redc_cong
  rw [Nat.mod_mul_mod, Nat.mul_right_comm]

/-- (field.Field).times -/
theorem f80_ok {g h m r2 inv root a b : Nat} (hM : Mont m r2 inv) (ha : a < m) (hb : b < m) : PureAt (fN g h m r2 inv root) 80 [PT g, NV a, NV b] (NV (a * b % m)) := by
  have h1 := f100_ok (g := h) hM ha
  have h2 := f103_ok (g := h) hM (a := a * R % m) (b := b) (Nat.mod_lt _ (by omega)) hb
  rw [redc_R1 hM.odd hM.one] at h2
  exact pureAt_of Try.func80 rfl 8 [(PT g, .at_ 0), (NV a, .no), (NV b, .no)] (fN g h m r2 inv root) [mc 100 [PT h, NV a] [(1, montE h m r2 inv)] (.tuple #[NV (a * R % m), I 0]), mc 103 [PT h, NV (a * R % m), NV b] [(1, montE h m r2 inv)] (.tuple #[NV (a * b % m), I 0])] _ rfl
    (fun _ => ⟨mc_ok h1, mc_ok h2, trivial⟩) (fun γ => by kernel_rfl)

def fNi (g h m r2 inv root : Nat) : List (Nat × Ent) := [(0, fieldE g h m root fTg false), (1, montE h m r2 inv)]

/-- (field.Field).two -/
theorem f78_plus {g h m r2 inv root a b : Nat} (hm : m < R) (ha : a < m) (hb : b < m) : PureAt (fN g h m r2 inv root) 78 [PT g, .func (.func 79) #[PT g] #[], NV a, NV b] (.tuple #[NV ((a + b) % m), I 0]) :=
  pureAt_of Try.func78 rfl 8 [(PT g, .at_ 0), (.func (.func 79) #[PT g] #[], .no), (NV a, .no), (NV b, .no)] (fN g h m r2 inv root) [mc 68 [PT g, NV a] (fNi g h m r2 inv root) (I 0), mc 68 [PT g, NV b] (fNi g h m r2 inv root) (I 0), mc 79 [PT g, NV a, NV b] (fNi g h m r2 inv root) (NV ((a + b) % m))] _ rfl
    (fun _ => ⟨mc_ok (f68_in hm ha), mc_ok (f68_in hm hb), mc_ok (f79_ok hm ha hb), trivial⟩) (fun γ => by kernel_rfl)
theorem f78_minus {g h m r2 inv root a b : Nat} (hm : m < R) (ha : a < m) (hb : b < m) : PureAt (fN g h m r2 inv root) 78 [PT g, .func (.func 120) #[PT g] #[], NV a, NV b] (.tuple #[NV ((a + m - b) % m), I 0]) :=
  pureAt_of Try.func78 rfl 8 [(PT g, .at_ 0), (.func (.func 120) #[PT g] #[], .no), (NV a, .no), (NV b, .no)] (fN g h m r2 inv root) [mc 68 [PT g, NV a] (fNi g h m r2 inv root) (I 0), mc 68 [PT g, NV b] (fNi g h m r2 inv root) (I 0), mc 120 [PT g, NV a, NV b] (fNi g h m r2 inv root) (NV ((a + m - b) % m))] _ rfl
    (fun _ => ⟨mc_ok (f68_in hm ha), mc_ok (f68_in hm hb), mc_ok (f120_ok hm ha hb), trivial⟩) (fun γ => by kernel_rfl)
theorem f78_times {g h m r2 inv root a b : Nat} (hM : Mont m r2 inv) (ha : a < m) (hb : b < m) : PureAt (fN g h m r2 inv root) 78 [PT g, .func (.func 80) #[PT g] #[], NV a, NV b] (.tuple #[NV (a * b % m), I 0]) :=
  pureAt_of Try.func78 rfl 8 [(PT g, .at_ 0), (.func (.func 80) #[PT g] #[], .no), (NV a, .no), (NV b, .no)] (fN g h m r2 inv root) [mc 68 [PT g, NV a] (fNi g h m r2 inv root) (I 0), mc 68 [PT g, NV b] (fNi g h m r2 inv root) (I 0), mc 80 [PT g, NV a, NV b] (fNi g h m r2 inv root) (NV (a * b % m))] _ rfl
    (fun _ => ⟨mc_ok (f68_in hM.lt ha), mc_ok (f68_in hM.lt hb), mc_ok (f80_ok hM ha hb), trivial⟩) (fun γ => by kernel_rfl)

/-- (field.Field).Add -/
theorem f30_ok {g h m r2 inv root a b : Nat} (hm : m < R) (ha : a < m) (hb : b < m) : PureAt (fN g h m r2 inv root) 30 [PT g, NV a, NV b] (.tuple #[NV ((a + b) % m), I 0]) :=
  pureAt_of Try.func30 rfl 8 [(PT g, .at_ 0), (NV a, .no), (NV b, .no)] (fN g h m r2 inv root) [mc 78 [PT g, .func (.func 79) #[PT g] #[], NV a, NV b] (fNi g h m r2 inv root) (.tuple #[NV ((a + b) % m), I 0])] _ rfl
    (fun _ => ⟨mc_ok (f78_plus hm ha hb), trivial⟩) (fun γ => by kernel_rfl)
/-- (field.Field).Sub -/
theorem f81_ok {g h m r2 inv root a b : Nat} (hm : m < R) (ha : a < m) (hb : b < m) : PureAt (fN g h m r2 inv root) 81 [PT g, NV a, NV b] (.tuple #[NV ((a + m - b) % m), I 0]) :=
  pureAt_of Try.func81 rfl 8 [(PT g, .at_ 0), (NV a, .no), (NV b, .no)] (fN g h m r2 inv root) [mc 78 [PT g, .func (.func 120) #[PT g] #[], NV a, NV b] (fNi g h m r2 inv root) (.tuple #[NV ((a + m - b) % m), I 0])] _ rfl
    (fun _ => ⟨mc_ok (f78_minus hm ha hb), trivial⟩) (fun γ => by kernel_rfl)
/-- (field.Field).Mul -/
theorem f31_ok {g h m r2 inv root a b : Nat} (hM : Mont m r2 inv) (ha : a < m) (hb : b < m) : PureAt (fN g h m r2 inv root) 31 [PT g, NV a, NV b] (.tuple #[NV (a * b % m), I 0]) :=
  pureAt_of Try.func31 rfl 8 [(PT g, .at_ 0), (NV a, .no), (NV b, .no)] (fN g h m r2 inv root) [mc 78 [PT g, .func (.func 80) #[PT g] #[], NV a, NV b] (fNi g h m r2 inv root) (.tuple #[NV (a * b % m), I 0])] _ rfl
    (fun _ => ⟨mc_ok (f78_times hM ha hb), trivial⟩) (fun γ => by kernel_rfl)
/-- (field.Field).Neg -/
theorem f32_ok {g h m r2 inv root a : Nat} (hm : m < R) (ha : a < m) : PureAt (fN g h m r2 inv root) 32 [PT g, NV a] (.tuple #[NV ((m - a) % m), I 0]) := by
  have h1 := f81_ok (g := g) (h := h) (r2 := r2) (inv := inv) (root := root) hm (a := 0) (b := a) (by omega) ha
  rw [Nat.zero_add] at h1
  exact pureAt_of Try.func32 rfl 8 [(PT g, .at_ 0), (NV a, .no)] (fN g h m r2 inv root) [mc 81 [PT g, NV 0, NV a] (fNi g h m r2 inv root) (.tuple #[NV ((m - a) % m), I 0])] _ rfl
    (fun _ => ⟨mc_ok h1, trivial⟩) (fun γ => by kernel_rfl)

end Go.Proofs.Ytildcmggcbdhpaa

namespace Go.Proofs.Ytildcmggcbdhpaa
open Go.Ex Go.RowKit Lim

noncomputable def powC : Code := (loopsOf (Fx Try.f122)).getD 0 .skip
noncomputable def powS (m r2 inv root a e x : Nat) (gl : List Nat) (v : Value) (r : Nat) : St :=
  ⟨frOf Try.f122.ntmps [(0, PT (gl.getD 0 0)), (4, PT (gl.getD 2 0)), (5, PT (gl.getD 3 0)), (6, PT (gl.getD 4 0)), (9, PT (gl.getD 5 0)), (11, PT (gl.getD 6 0)), (13, v)],
    tgOf Try.f122.ntmps [(0, .at_ 0), (4, .at_ 2), (5, .at_ 3), (6, .at_ 4), (9, .at_ 5), (11, .at_ 6)],
    [fieldE (gl.getD 0 0) (gl.getD 1 0) m root fTg false, montE (gl.getD 1 0) m r2 inv, numE (gl.getD 2 0) a true, numE (gl.getD 3 0) e true, numE (gl.getD 4 0) 0 true, numE (gl.getD 5 0) x true, numE (gl.getD 6 0) r true]⟩

def powR0 (m r2 inv e h n r r' : Nat) : List Rec := [rn 40 (geX n) (.bool true), mc 103 [PT h, NV r, NV r] [(1, montE h m r2 inv)] (.tuple #[NV r', I 0]), pc 114 [NV e, I (n : Nat)] (U 0), rn 42 (decX n) (V8 n)]
def powR1 (m r2 inv e h n r r' x r'' : Nat) : List Rec := [rn 40 (geX n) (.bool true), mc 103 [PT h, NV r, NV r] [(1, montE h m r2 inv)] (.tuple #[NV r', I 0]), pc 114 [NV e, I (n : Nat)] (U 1), mc 103 [PT h, NV r', NV x] [(1, montE h m r2 inv)] (.tuple #[NV r'', I 0]), rn 42 (decX n) (V8 n)]

theorem pow_h0 (m r2 inv root a e x : Nat) (gl : List Nat) (n r r' : Nat) (γ : Nat → Nat) :
    endL (powS m r2 inv root a e x gl (V8 n) r') (exec Try.prog powC ⟨powS m r2 inv root a e x gl (I (n : Nat)) r, (List.range 8).map γ, powR0 m r2 inv e (gl.getD 1 0) n r r', []⟩) =
      endR .normal (powS m r2 inv root a e x gl (V8 n) r') (exec Try.prog powC ⟨powS m r2 inv root a e x gl (I (n : Nat)) r, (List.range 8).map γ, powR0 m r2 inv e (gl.getD 1 0) n r r', []⟩) := by kernel_rfl
theorem pow_h1 (m r2 inv root a e x : Nat) (gl : List Nat) (n r r' r'' : Nat) (γ : Nat → Nat) :
    endL (powS m r2 inv root a e x gl (V8 n) r'') (exec Try.prog powC ⟨powS m r2 inv root a e x gl (I (n : Nat)) r, (List.range 8).map γ, powR1 m r2 inv e (gl.getD 1 0) n r r' x r'', []⟩) =
      endR .normal (powS m r2 inv root a e x gl (V8 n) r'') (exec Try.prog powC ⟨powS m r2 inv root a e x gl (I (n : Nat)) r, (List.range 8).map γ, powR1 m r2 inv e (gl.getD 1 0) n r r' x r'', []⟩) := by kernel_rfl
theorem pow_stop (m r2 inv root a e x : Nat) (gl : List Nat) (r : Nat) (γ : Nat → Nat) :
    endL (powS m r2 inv root a e x gl (V8 0) r) (exec Try.prog powC ⟨powS m r2 inv root a e x gl (V8 0) r, (List.range 8).map γ, [], []⟩) =
      endR (.exit 0) (powS m r2 inv root a e x gl (V8 0) r) (exec Try.prog powC ⟨powS m r2 inv root a e x gl (V8 0) r, (List.range 8).map γ, [], []⟩) := by kernel_rfl

theorem bits_step (e n : Nat) : e / 2 ^ n = 2 * (e / 2 ^ (n + 1)) + bitN e n := by
  unfold bitN
  rw [Nat.pow_succ, ← Nat.div_div_eq_div_mul]
  omega

def powV (m a e k : Nat) : Nat := a ^ (e / 2 ^ k) * R % m
theorem pow_sq {m a e n : Nat} (hodd : m % 2 = 1) (h1 : 1 < m) : redc m (powV m a e (n + 1) * powV m a e (n + 1)) = a ^ (2 * (e / 2 ^ (n + 1))) * R % m := by
  unfold powV
  rw [redc_RR hodd h1, ← Nat.pow_add, ← Nat.two_mul]

noncomputable def powRec (m r2 inv root a e : Nat) (k : Nat) : Rec := .code powC (fun gl => powS m r2 inv root a e (a * R % m) gl (V8 k) (powV m a e k)) (fun gl => powS m r2 inv root a e (a * R % m) gl (V8 0) (powV m a e 0)) (.exit 0)
theorem powRec_ok {m r2 inv root a e k : Nat} {w0 : World} (hM : Mont m r2 inv) (hk : k ≤ 256) : (powRec m r2 inv root a e k).Ok Try.prog w0 := by
  have hpos : 0 < m := by have := hM.one; omega
  refine Rec.ok_code follows (fun gl k => powS m r2 inv root a e (a * R % m) gl (V8 k) (powV m a e k)) (fun k => k ≤ 256) id (.exit 0) (fun gl => powS m r2 inv root a e (a * R % m) gl (V8 0) (powV m a e 0)) (fun h => by cases h) k hk (fun gl k hk => ?_)
  cases k with
  | zero => exact .stop 8 [] (fun r hr => by cases hr) (fun γ => pow_stop m r2 inv root a e (a * R % m) gl (powV m a e 0) γ)
  | succ n =>
    have hb := f114_ok e (i := n) (by omega)
    have h103 := f103_ok (g := gl.getD 1 0) hM (a := powV m a e (n + 1)) (b := powV m a e (n + 1)) (Nat.mod_lt _ hpos) (Nat.mod_lt _ hpos)
    rw [pow_sq hM.odd hM.one] at h103
    have hbit : bitN e n = 0 ∨ bitN e n = 1 := by unfold bitN; omega
    rcases hbit with h0 | h0
    · rw [h0] at hb
      have ev : powV m a e n = a ^ (2 * (e / 2 ^ (n + 1))) * R % m := by unfold powV; rw [bits_step e n, h0, Nat.add_zero]
      refine .go n (by omega) (by simp) 8 (powR0 m r2 inv e (gl.getD 1 0) n (powV m a e (n + 1)) (powV m a e n)) (RecsOk.all ⟨rn_ok (geX_eq n), mc_ok ?_, pc_ok hb, rn_ok (decX_eq (by omega)), trivial⟩) (fun γ => pow_h0 m r2 inv root a e (a * R % m) gl n _ _ γ)
      rw [ev]; exact h103
    · rw [h0] at hb
      have h2 := f103_ok (g := gl.getD 1 0) hM (a := a ^ (2 * (e / 2 ^ (n + 1))) * R % m) (b := a * R % m) (Nat.mod_lt _ hpos) (Nat.mod_lt _ hpos)
      rw [redc_RR hM.odd hM.one, ← Nat.pow_succ] at h2
      have ev : powV m a e n = a ^ (2 * (e / 2 ^ (n + 1)) + 1) * R % m := by unfold powV; rw [bits_step e n, h0]
      refine .go n (by omega) (by simp) 8 (powR1 m r2 inv e (gl.getD 1 0) n (powV m a e (n + 1)) (a ^ (2 * (e / 2 ^ (n + 1))) * R % m) (a * R % m) (powV m a e n)) (RecsOk.all ⟨rn_ok (geX_eq n), mc_ok h103, pc_ok hb, mc_ok ?_, rn_ok (decX_eq (by omega)), trivial⟩) (fun γ => pow_h1 m r2 inv root a e (a * R % m) gl n _ _ _ γ)
      rw [ev]; exact h2

/-- (field.Field).Pow -/
theorem f122_ok {g h m r2 inv root a e : Nat} (hM : Mont m r2 inv) (ha : a < m) (he : e < R) : PureAt (fN g h m r2 inv root) 122 [PT g, NV a, NV e] (.tuple #[NV (a ^ e % m), I 0]) := by
  have hpos : 0 < m := by have := hM.one; omega
  have h256 : powV m a e 256 = 1 * R % m := by
    unfold powV
    rw [show (2 : Nat) ^ 256 = R from by decide, Nat.div_eq_of_lt he, Nat.pow_zero]
  have hrec := fun w0 : World => powRec_ok (m := m) (r2 := r2) (inv := inv) (root := root) (a := a) (e := e) (k := 256) (w0 := w0) hM (by omega)
  unfold powRec at hrec
  rw [h256] at hrec
  have h101 := f101_ok (g := h) hM (a := powV m a e 0) (Nat.mod_lt _ hpos)
  have e0 : redc m (powV m a e 0) = a ^ e % m := by
    unfold powV
    rw [Nat.pow_zero, Nat.div_one, redc_cong (Nat.mod_mod _ _), redc_R hM.odd hM.one]
  rw [e0] at h101
  exact pureAt_of Try.func122 rfl 8 [(PT g, .at_ 0), (NV a, .no), (NV e, .no)] (fN g h m r2 inv root)
    [mc 68 [PT g, NV a] (fNi g h m r2 inv root) (I 0), mc 100 [PT h, NV a] [(1, montE h m r2 inv)] (.tuple #[NV (a * R % m), I 0]), mc 100 [PT h, NV 1] [(1, montE h m r2 inv)] (.tuple #[NV (1 * R % m), I 0]),
      .code powC (fun gl => powS m r2 inv root a e (a * R % m) gl (V8 256) (1 * R % m)) (fun gl => powS m r2 inv root a e (a * R % m) gl (V8 0) (powV m a e 0)) (.exit 0),
      mc 101 [PT h, NV (powV m a e 0)] [(1, montE h m r2 inv)] (.tuple #[NV (a ^ e % m), I 0])] _ rfl
    (fun w => ⟨mc_ok (f68_in hM.lt ha), mc_ok (f100_ok hM ha), mc_ok (f100_ok hM hM.one), hrec w, mc_ok h101, trivial⟩) (fun γ => by kernel_rfl)

/-- (field.Field).Inv -/
theorem f102_ok {g h m r2 inv root a : Nat} (hM : Mont m r2 inv) (ha : a < m) (h0 : a ≠ 0) (h2 : 2 ≤ m) : PureAt (fN g h m r2 inv root) 102 [PT g, NV a] (.tuple #[NV (a ^ (m - 2) % m), I 0]) := by
  have h118 := f118_ok (a := m) (b := 2) hM.lt (by decide)
  have hlt := hM.lt
  rw [show m + R - 2 = (m - 2) + R by omega, Nat.add_mod_right, Nat.mod_eq_of_lt (by omega), if_neg (by omega)] at h118
  exact pureAt_of Try.func102 rfl 8 [(PT g, .at_ 0), (NV a, .no)] (fN g h m r2 inv root)
    [mc 68 [PT g, NV a] (fNi g h m r2 inv root) (I 0), eqB 18 a 0 false, pc 118 [NV m, NV 2] (.tuple #[NV (m - 2), U 0]), mc 122 [PT g, NV a, NV (m - 2)] (fNi g h m r2 inv root) (.tuple #[NV (a ^ (m - 2) % m), I 0])] _ rfl
    (fun _ => ⟨mc_ok (f68_in hM.lt ha), eqB_ok (by omega) (by decide) (decide_eq_false h0), pc_ok h118, mc_ok (f122_ok hM ha (by omega)), trivial⟩) (fun γ => by kernel_rfl)
theorem f102_zero {g h m r2 inv root : Nat} (hM : Mont m r2 inv) : PureAt (fN g h m r2 inv root) 102 [PT g, NV 0] (.tuple #[NV 0, I 21]) :=
  pureAt_of Try.func102 rfl 8 [(PT g, .at_ 0), (NV 0, .no)] (fN g h m r2 inv root)
    [mc 68 [PT g, NV 0] (fNi g h m r2 inv root) (I 0), eqB 18 0 0 true] _ rfl
    (fun _ => ⟨mc_ok (f68_in hM.lt (by have := hM.one; omega)), eqB_ok (by decide) (by decide) (decide_eq_true rfl), trivial⟩) (fun γ => by kernel_rfl)

end Go.Proofs.Ytildcmggcbdhpaa
