/- Package field: the two fields are made; sums, differences, products. No conditions but that numbers are below the modulus. -/
import Derived.Test.YtildcmggcbdhpaaLimbH
namespace Go.Proofs.Ytildcmggcbdhpaa
open Go.Ex Go.RowKit Lim

/-- A function that makes blocks. -/
def Makes (f : FuncId) (args : List Value) (k : Nat) (val : (Nat → Nat) → Value) (news : (Nat → Nat) → List Ent) : Prop :=
  ∀ w : World, Calls Try.prog f args.toArray w fun e w' => ∃ δ : Nat → Nat, (∀ q, k ≤ q → δ q = 0) ∧ e = .returned (val δ) ∧ Below w.heap.size w w' ∧
    (∀ e ∈ news δ, e.holds w' ∧ w.heap.size ≤ e.g) ∧ (news δ).Pairwise (fun a b => a.g ≠ b.g)
def nc (f : FuncId) (args : List Value) (k : Nat) (val : (Nat → Nat) → Value) (news : (Nat → Nat) → List Ent) (tag : Tag) : Rec := .call f (fun _ => args) (fun _ => []) k val news tag
theorem nc_ok {w : World} {f : FuncId} {args : List Value} {k : Nat} {val : (Nat → Nat) → Value} {news : (Nat → Nat) → List Ent} {tag : Tag} (h : Makes f args k val news) : (nc f args k val news tag).Ok Try.prog w := fun _ w _ _ => h w

/-- the numbers that are handed out -/
def pick (k : Nat) (ix : Nat → Nat) (γ : Nat → Nat) : Nat → Nat := fun q => if q < k then γ (ix q) else 0

theorem zip_pairwise (l : List Ent) : ∀ (pos : List Nat) (R : Nat × Ent → Nat × Ent → Prop), pos.Nodup → pos.length = l.length → (∀ p ∈ pos.zip l, ∀ q ∈ pos.zip l, p.1 ≠ q.1 → R p q) → (pos.zip l).Pairwise R := by
  induction l with
  | nil => intro pos R _ h _; simp
  | cons e l ih =>
    intro pos R hn hl h
    cases pos with
    | nil => simp
    | cons i pos =>
      simp only [List.zip_cons_cons, List.pairwise_cons]
      rw [List.nodup_cons] at hn
      refine ⟨fun q hq => h (i, e) (by simp) q (by simp [hq]) ?_, ih pos R hn.2 (by simpa using hl) fun p hp q hq => h p (by simp [hp]) q (by simp [hq])⟩
      intro he
      have := (List.of_mem_zip (a := q.1) (b := q.2) (by simpa using hq)).1
      rw [← he] at this
      exact hn.1 this

theorem makes_at {f : FuncId} {fn : Func} (hf : Try.prog.funcs[f]? = some fn) (hb : fn.body = some (Fx fn)) (K : Nat) (args : List (Value × Tag)) (hp : List Ent) (recs : List Rec) (k : Nat) (ix : Nat → Nat) (pos : List Nat) (val : (Nat → Nat) → Value) (news : (Nat → Nat) → List Ent)
    (w : World) (hhp : ∀ e ∈ hp, e.own = false ∧ e.holds w) (hrecs : ∀ w, RecsOk w recs) (hpos : pos.Nodup) (hlen : ∀ δ, pos.length = (news δ).length) (hown : ∀ δ, ∀ e ∈ news δ, e.own = true)
    (heq : ∀ γ : Nat → Nat, outL Try.prog fn.results.toList (pos.zip (news (pick k ix γ))) (exec Try.prog (Fx fn) ⟨Ex.start fn.ntmps args hp, (List.range K).map γ, recs, []⟩) =
      outR Try.prog fn.results.toList (pos.zip (news (pick k ix γ))) (val (pick k ix γ)) (exec Try.prog (Fx fn) ⟨Ex.start fn.ntmps args hp, (List.range K).map γ, recs, []⟩)) :
    Calls Try.prog f (args.map (·.1)).toArray w fun e w' => ∃ δ : Nat → Nat, (∀ q, k ≤ q → δ q = 0) ∧ e = .returned (val δ) ∧ Below w.heap.size w w' ∧
      (∀ e ∈ news δ, e.holds w' ∧ w.heap.size ≤ e.g) ∧ (news δ).Pairwise (fun a b => a.g ≠ b.g) := by
  have h := calls hf hb follows K args hp recs (fun γ => val (pick k ix γ)) (fun γ => pos.zip (news (pick k ix γ))) w hhp (hrecs w).all heq
  refine h.mono ?_
  rintro e w' ⟨γ, h1, h2, h3, h4⟩
  refine ⟨pick k ix γ, fun q hq => if_neg (by omega), h1, h2, fun e he => ?_, ?_⟩
  · obtain ⟨i, hi⟩ := List.getElem_of_mem he
    obtain ⟨hi1, hi2⟩ := hi
    have hm : ((pos[i]'(by rw [hlen (pick k ix γ)]; exact hi1)), e) ∈ pos.zip (news (pick k ix γ)) := by
      rw [List.mem_iff_getElem]
      exact ⟨i, by rw [List.length_zip, hlen (pick k ix γ)]; simpa using hi1, by rw [List.getElem_zip, hi2]⟩
    have := h3 _ hm
    exact ⟨this.1, this.2 (hown _ e he)⟩
  · have hz := zip_pairwise (news (pick k ix γ)) pos (fun a b => a.2.g ≠ b.2.g) hpos (hlen _) fun p hpm q hqm hne => h4 p hpm q hqm hne (hown _ _ (List.of_mem_zip (a := p.1) (b := p.2) hpm).2)
    have e1 : (news (pick k ix γ)) = (pos.zip (news (pick k ix γ))).map (·.2) := by
      rw [List.map_snd_zip]
      rw [hlen (pick k ix γ)]
      exact Nat.le_refl _
    rw [e1, List.pairwise_map]
    exact hz

def P : Nat := 115792089237316195423570985008687907853269984665640564039457584007908834671663
def Q : Nat := 115792089237316195423570985008687907852837564279074904382605163141518161494337
def P2 : Nat := R * R % P
def Q2 : Nat := R * R % Q
def Pi : Nat := 15580212934572586289
def Qi : Nat := 5408259542528602431
/-- the exponent of a root -/
def rt : Nat := (P + 1) / 4
theorem montP : Mont P P2 Pi := ⟨by decide, by decide, by decide, by decide, rfl⟩
theorem montQ : Mont Q Q2 Qi := ⟨by decide, by decide, by decide, by decide, rfl⟩

def montO (g m r2 inv : Nat) : Ent := ⟨g, [U (l0 m), U (l1 m), U (l2 m), U (l3 m), U (l0 r2), U (l1 r2), U (l2 r2), U (l3 r2), U inv], [], 153, true⟩

def newV (δ : Nat → Nat) : Value := .tuple #[PT (δ 0), I 0]
/-- limb.NewMont -/
theorem f77_P : Makes 77 [NV P] 1 newV (fun δ => [montO (δ 0) P P2 Pi]) := fun w =>
  makes_at Try.func77 rfl 8 [(NV P, .no)] [] [pc 115 [WV R, NV P] (.tuple #[NV (R % P), I 0]), pc 116 [NV (R % P), NV (R % P)] (WV (R % P * (R % P))), pc 115 [WV (R % P * (R % P)), NV P] (.tuple #[NV (R % P * (R % P) % P), I 0])]
    1 (fun _ => 3) [3] newV _ w (fun e he => by cases he)
    (fun _ => ⟨pc_ok (f115_ok (by decide) (by decide) (by decide)), pc_ok (f116_ok (by decide) (by decide)), pc_ok (f115_ok (by decide) (by decide) (by decide)), trivial⟩) (by decide) (fun _ => rfl) (fun δ e he => by simp at he; subst he; rfl) (fun γ => by kernel_rfl)
theorem f77_Q : Makes 77 [NV Q] 1 newV (fun δ => [montO (δ 0) Q Q2 Qi]) := fun w =>
  makes_at Try.func77 rfl 8 [(NV Q, .no)] [] [pc 115 [WV R, NV Q] (.tuple #[NV (R % Q), I 0]), pc 116 [NV (R % Q), NV (R % Q)] (WV (R % Q * (R % Q))), pc 115 [WV (R % Q * (R % Q)), NV Q] (.tuple #[NV (R % Q * (R % Q) % Q), I 0])]
    1 (fun _ => 3) [3] newV _ w (fun e he => by cases he)
    (fun _ => ⟨pc_ok (f115_ok (by decide) (by decide) (by decide)), pc_ok (f116_ok (by decide) (by decide)), pc_ok (f115_ok (by decide) (by decide) (by decide)), trivial⟩) (by decide) (fun _ => rfl) (fun δ e he => by simp at he; subst he; rfl) (fun γ => by kernel_rfl)

/-- a field.Field -/
def fieldE (g h m root : Nat) (tg : List Tag) (own : Bool) : Ent := ⟨g, [U (l0 m), U (l1 m), U (l2 m), U (l3 m), PT h, U (l0 root), U (l1 root), U (l2 root), U (l3 root)], tg, 121, own⟩

def baseN (δ : Nat → Nat) : List Ent := [montO (δ 0) P P2 Pi, fieldE (δ 1) (δ 0) P rt [] true]
def scalN (δ : Nat → Nat) : List Ent := [montO (δ 0) Q Q2 Qi, fieldE (δ 1) (δ 0) Q 0 [] true]
def twoV (δ : Nat → Nat) : Value := PT (δ 1)


/-- field.Base -/
theorem f63_ok : Makes 63 [] 2 twoV baseN := fun w =>
  makes_at Try.func63 rfl 8 [] [] [nc 77 [NV P] 1 newV (fun δ => [montO (δ 0) P P2 Pi]) (.tup [.at_ 1, .no])] 2 (fun q => q + 1) [1, 2] twoV baseN w (fun e he => by cases he)
    (fun _ => ⟨nc_ok f77_P, trivial⟩) (by decide) (fun _ => rfl) (fun δ e he => by simp [baseN] at he; rcases he with rfl | rfl <;> rfl) (fun γ => by kernel_rfl)
/-- field.Scalars -/
theorem f29_ok : Makes 29 [] 2 twoV scalN := fun w =>
  makes_at Try.func29 rfl 8 [] [] [nc 77 [NV Q] 1 newV (fun δ => [montO (δ 0) Q Q2 Qi]) (.tup [.at_ 1, .no])] 2 (fun q => q + 1) [1, 2] twoV scalN w (fun e he => by cases he)
    (fun _ => ⟨nc_ok f77_Q, trivial⟩) (by decide) (fun _ => rfl) (fun δ e he => by simp [scalN] at he; rcases he with rfl | rfl <;> rfl) (fun γ => by kernel_rfl)

/-- (field.Field).Modulus -/
theorem f99_ok (g h m root : Nat) : PureAt [fieldE g h m root [] false] 99 [PT g] (NV m) :=
  pureAt_of Try.func99 rfl 8 [(PT g, .at_ 0)] [fieldE g h m root [] false] [] _ rfl (fun _ => trivial) (fun γ => by kernel_rfl)

def fTg : List Tag := [.no, .no, .no, .no, .at_ 1]
/-- what a field's functions look at -/
def fN (g h m r2 inv root : Nat) : List Ent := [fieldE g h m root fTg false, montE h m r2 inv]

/-- (field.Field).Check -/
theorem f68_raw {g h m r2 inv root a : Nat} {q : Bool} (hm : m < R) (ha : a < R) (hq : decide (cmpN a m ≥ 0) = q) : PureAt (fN g h m r2 inv root) 68 [PT g, NV a] (I (if q then 20 else 0)) := by
  have hr : ∀ w, RecsOk w [pc 111 [NV a, NV m] (I (cmpN a m)), rn 15 (.bool (decide (cmpN a m ≥ 0))) (.bool q)] := fun w => ⟨pc_ok (f111_ok ha hm), rn_ok (by rw [hq]), trivial⟩
  cases q
  · exact pureAt_of Try.func68 rfl 8 [(PT g, .at_ 0), (NV a, .no)] (fN g h m r2 inv root) [pc 111 [NV a, NV m] (I (cmpN a m)), rn 15 (.bool (decide (cmpN a m ≥ 0))) (.bool false)] _ rfl hr (fun γ => by kernel_rfl)
  · exact pureAt_of Try.func68 rfl 8 [(PT g, .at_ 0), (NV a, .no)] (fN g h m r2 inv root) [pc 111 [NV a, NV m] (I (cmpN a m)), rn 15 (.bool (decide (cmpN a m ≥ 0))) (.bool true)] _ rfl hr (fun γ => by kernel_rfl)
theorem cmp_ge (a m : Nat) : decide (cmpN a m ≥ 0) = decide (m ≤ a) := by
  unfold cmpN
  split
  · rw [decide_eq_false (by omega), decide_eq_false (by omega)]
  · split <;> rw [decide_eq_true (by omega), decide_eq_true (by omega)]
theorem f68_in {g h m r2 inv root a : Nat} (hm : m < R) (ha : a < m) : PureAt (fN g h m r2 inv root) 68 [PT g, NV a] (I 0) :=
  f68_raw (q := false) hm (by omega) (by rw [cmp_ge, decide_eq_false (by omega)])
theorem f68_out {g h m r2 inv root a : Nat} (hm : m < R) (ha : m ≤ a) (haR : a < R) : PureAt (fN g h m r2 inv root) 68 [PT g, NV a] (I 20) :=
  f68_raw (q := true) hm haR (by rw [cmp_ge, decide_eq_true (by omega)])

end Go.Proofs.Ytildcmggcbdhpaa
