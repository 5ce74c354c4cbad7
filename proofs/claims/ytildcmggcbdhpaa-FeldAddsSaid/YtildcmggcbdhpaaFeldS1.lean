/- feld.Sum: sums of lists of commitments. No conditions but that the lists' points stand where their values say. -/
import Derived.Test.YtildcmggcbdhpaaFeldS0
namespace Go.Proofs.Ytildcmggcbdhpaa
open Go.Ex Go.RowKit Lim
set_option maxRecDepth 100000

theorem sl79 : Try.prog.underlying 79 = some (.slice 40) := by kernel_rfl
theorem sz40 : (Try.prog.info? 40).map (·.size) = some 1 := by kernel_rfl

/-- a list, as it stands in w -/
def LstIn (w : World) (v : Value) (n : Nat) (l : List W9) : Prop := ∃ (g off cap : Nat) (kc : List Value) (kt : TypeId), v = SL g off n cap ∧ l.length = n ∧ (xE g kc kt).holds w ∧ PsH kc off l

/-- lists of lists, as they stand in w -/
structure LsH (w : World) (og oo : Nat) (oc : List Value) (ot : TypeId) (V : List Value) : Prop where
  outer : (xE og oc ot).holds w
  at_ : ∀ i v, V[i]? = some v → oc[oo + i]? = some v
  sl : ∀ v ∈ V, ∃ a n c, v = .slice a n c
  n : V.length ≤ 20

def lenV : Value → Nat
  | .slice _ n _ => n
  | _ => 0

theorem ix79_ok {w0 : World} {d og oo n cap i : Nat} (h : i < n) : (ixF d 79 og oo n cap i (oo + i * 1)).Ok Try.prog w0 := ixF_ok sl79 sz40 h rfl
theorem ld79_ok {w0 : World} {d og oo i : Nat} {oc : List Value} {ot : TypeId} {V : List Value} (H : LsH w0 og oo oc ot V) {v : Value} (hv : V[i]? = some v) : (ldW d 40 og (oo + i * 1) v).Ok Try.prog w0 :=
  ldW_one (e := xE og oc ot) H.outer (by rw [Nat.mul_one]; exact H.at_ i v hv) sl40

/-- the first loop: are all lists of one length? -/
noncomputable def suA : Code := (loopsOf (Fx Try.f48)).getD 0 .skip
def suAS (ov : Value) (n i : Nat) : St := ⟨frOf 77 [(0, ov), (15, ov), (16, I (n : Nat)), (17, I (i : Nat))], tgOf 77 [], []⟩
def suAE : St := ⟨frOf 77 [(2, .slice none 0 0), (3, I 1)], tgOf 77 [], []⟩
def suAH (og oo n cap i : Nat) (v : Value) (m : Nat) (d : Bool) : List Rec := [rn 18 (lsX i n) (.bool true), ixF 19 79 og oo n cap i (oo + i * 1), ldW 20 40 og (oo + i * 1) v, pc 92 [I m] (.bool d)]
def suAT (og oo n cap m n0 : Nat) (v0 : Value) (b : Bool) : List Rec := [ixF 29 79 og oo n cap 0 (oo + 0 * 1), ldW 30 40 og (oo + 0 * 1) v0, rn 32 (nqX m n0) (.bool b)]
theorem suA_go (og oo n cap i : Nat) (a a0 : Option Addr) (m c n0 c0 : Nat) (γ : Nat → Nat) :
    Goes suA (suAS (SL og oo n cap) n i) (suAH og oo n cap i (.slice a m c) m true ++ (suAT og oo n cap m n0 (.slice a0 n0 c0) false ++ [rn 34 (adX i) (I (i + 1 : Nat))])) γ .normal (suAS (SL og oo n cap) n (i + 1)) := by
  show _ = _; kernel_rfl
theorem suA_bad1 (og oo n cap i : Nat) (a : Option Addr) (m c : Nat) (γ : Nat → Nat) :
    Goes suA (suAS (SL og oo n cap) n i) (suAH og oo n cap i (.slice a m c) m false) γ .ret suAE := by
  show _ = _; kernel_rfl
theorem suA_bad2 (og oo n cap i : Nat) (a a0 : Option Addr) (m c n0 c0 : Nat) (γ : Nat → Nat) :
    Goes suA (suAS (SL og oo n cap) n i) (suAH og oo n cap i (.slice a m c) m true ++ suAT og oo n cap m n0 (.slice a0 n0 c0) true) γ .ret suAE := by
  show _ = _; kernel_rfl
theorem suA_out (ov : Value) (n : Nat) (γ : Nat → Nat) : Goes suA (suAS ov n n) [rn 18 (lsX n n) (.bool false)] γ (.exit 0) (suAS ov n n) := by
  show _ = _; kernel_rfl

/-- is a list as long as it should be? -/
def lok (n0 : Nat) (v : Value) : Bool := deg (lenV v) && (lenV v == n0)

section
variable {og oo ocap : Nat} {oc : List Value} {ot : TypeId} {V : List Value} {w0 : World}
theorem suA_next (H : LsH w0 og oo oc ot V) {v0 : Value} (h0 : V[0]? = some v0) {i : Nat} {v : Value} (hv : V[i]? = some v) (hk : lok (lenV v0) v = true) :
    ∃ recs, RecsOk w0 recs ∧ ∀ (_ : List Nat) γ, Goes suA (suAS (SL og oo V.length ocap) V.length i) recs γ .normal (suAS (SL og oo V.length ocap) V.length (i + 1)) := by
  obtain ⟨a, m, c, rfl⟩ := H.sl v (List.mem_of_getElem? hv)
  obtain ⟨a0, n0, c0, rfl⟩ := H.sl v0 (List.mem_of_getElem? h0)
  have hlt := lt_of_get hv
  have hn := H.n
  simp only [lok, lenV, Bool.and_eq_true, beq_iff_eq] at hk
  have h92 := f92_ok (n := m)
  rw [hk.1] at h92
  exact ⟨_, RecsOk.append (l := suAH og oo V.length ocap i (.slice a m c) m true) ⟨rn_ok (lsX_true hlt), ix79_ok hlt, ld79_ok H hv, pc_ok h92, trivial⟩
    (RecsOk.append (l := suAT og oo V.length ocap m n0 (.slice a0 n0 c0) false) (m := [rn 34 (adX i) (I (i + 1 : Nat))]) ⟨ix79_ok (lt_of_get h0), ld79_ok H h0, rn_ok (by rw [hk.2]; exact nqX_false _), trivial⟩ ⟨rn_ok (adX_eq (by omega)), trivial⟩),
    fun _ γ => suA_go og oo V.length ocap i a a0 m c n0 c0 γ⟩
theorem suA_end (H : LsH w0 og oo oc ot V) {v0 : Value} (h0 : V[0]? = some v0) (hk : ∀ v ∈ V, lok (lenV v0) v = true) :
    (Rec.code suA (fun _ => suAS (SL og oo V.length ocap) V.length 0) (fun _ => suAS (SL og oo V.length ocap) V.length V.length) (.exit 0)).Ok Try.prog w0 :=
  scan_end (fun _ i => suAS (SL og oo V.length ocap) V.length i) _ 0 V.length (fun i hi => by
    obtain ⟨v, hv⟩ : ∃ v, V[i]? = some v := ⟨_, List.getElem?_eq_getElem hi⟩
    exact suA_next H h0 hv (hk v (List.mem_of_getElem? hv))) ⟨[rn 18 (lsX V.length V.length) (.bool false)], ⟨rn_ok (lsX_false (Nat.le_refl _)), trivial⟩, fun _ γ => suA_out _ V.length γ⟩
theorem suA_bad (H : LsH w0 og oo oc ot V) {v0 : Value} (h0 : V[0]? = some v0) {i : Nat} {v : Value} (hv : V[i]? = some v) (hk : lok (lenV v0) v = false) (hj : ∀ (j : Nat) (u : Value), j < i → V[j]? = some u → lok (lenV v0) u = true) :
    (Rec.code suA (fun _ => suAS (SL og oo V.length ocap) V.length 0) (fun _ => suAE) .ret).Ok Try.prog w0 := by
  refine scan_bad (fun _ i => suAS (SL og oo V.length ocap) V.length i) _ i (fun j hji => ?_) ?_
  · have := lt_of_get hv
    obtain ⟨u, hu⟩ : ∃ u, V[j]? = some u := ⟨_, List.getElem?_eq_getElem (by omega)⟩
    exact suA_next H h0 hu (hj j u hji hu)
  · obtain ⟨a, m, c, rfl⟩ := H.sl v (List.mem_of_getElem? hv)
    obtain ⟨a0, n0, c0, rfl⟩ := H.sl v0 (List.mem_of_getElem? h0)
    have hlt := lt_of_get hv
    have h92 := f92_ok (n := m)
    cases hd : deg m with
    | false =>
      rw [hd] at h92
      exact ⟨suAH og oo V.length ocap i (.slice a m c) m false, ⟨rn_ok (lsX_true hlt), ix79_ok hlt, ld79_ok H hv, pc_ok h92, trivial⟩, fun _ γ => suA_bad1 og oo V.length ocap i a m c γ⟩
    | true =>
      rw [hd] at h92
      simp only [lok, lenV, hd, Bool.true_and, beq_eq_false_iff_ne] at hk
      exact ⟨_, RecsOk.append (l := suAH og oo V.length ocap i (.slice a m c) m true) (m := suAT og oo V.length ocap m n0 (.slice a0 n0 c0) true) ⟨rn_ok (lsX_true hlt), ix79_ok hlt, ld79_ok H hv, pc_ok h92, trivial⟩ ⟨ix79_ok (lt_of_get h0), ld79_ok H h0, rn_ok (nqX_true hk), trivial⟩,
        fun _ γ => suA_bad2 og oo V.length ocap i a a0 m c n0 c0 γ⟩
end

/-- a row of points, made -/
def W0 : W9 := ⟨0, 0, false⟩
theorem wcs_zero : ∀ n : Nat, wcs (List.replicate n W0) = zs z9 n
  | 0 => by simp [zs, Builtin.zeroCells, wcs]
  | n + 1 => by
    have h := zs_drop z9 1 n
    have h1 : (zs z9 (1 + n)).take 9 = W9.l W0 := by
      apply List.ext_getElem?
      intro i
      rw [List.getElem?_take]
      by_cases hi : i < 9
      · rw [if_pos hi]
        unfold zs Builtin.zeroCells
        rw [Array.getElem?_toList, Array.getElem?_map, Array.getElem?_range, if_pos (by show i < (1 + n) * 9; omega)]
        rcases i with _ | _ | _ | _ | _ | _ | _ | _ | _ | i <;> first | rfl | omega
      · rw [if_neg hi, List.getElem?_eq_none (by show 9 ≤ i; omega)]
    rw [List.replicate_succ]
    show W9.l W0 ++ wcs (List.replicate n W0) = _
    rw [wcs_zero n, ← h, ← h1, show (1 : Nat) * z9.size = 9 from rfl, List.take_append_drop, Nat.add_comm]

/-- makes_at, in one world -/
theorem makes_w {f : FuncId} {fn : Func} (hf : Try.prog.funcs[f]? = some fn) (hb : fn.body = some (Fx fn)) (K : Nat) (args : List (Value × Tag)) (hp : List Ent) (recs : List Rec) (k : Nat) (ix : Nat → Nat) (pos : List Nat) (val : (Nat → Nat) → Value) (news : (Nat → Nat) → List Ent)
    (w : World) (hhp : ∀ e ∈ hp, e.own = false ∧ e.holds w) (hrecs : RecsOk w recs) (hpos : pos.Nodup) (hlen : ∀ δ, pos.length = (news δ).length) (hown : ∀ δ, ∀ e ∈ news δ, e.own = true)
    (heq : ∀ γ : Nat → Nat, outL Try.prog fn.results.toList (pos.zip (news (pick k ix γ))) (exec Try.prog (Fx fn) ⟨Ex.start fn.ntmps args hp, (List.range K).map γ, recs, []⟩) =
      outR Try.prog fn.results.toList (pos.zip (news (pick k ix γ))) (val (pick k ix γ)) (exec Try.prog (Fx fn) ⟨Ex.start fn.ntmps args hp, (List.range K).map γ, recs, []⟩)) :
    Calls Try.prog f (args.map (·.1)).toArray w fun e w' => ∃ δ : Nat → Nat, (∀ q, k ≤ q → δ q = 0) ∧ e = .returned (val δ) ∧ Below w.heap.size w w' ∧
      (∀ e ∈ news δ, e.holds w' ∧ w.heap.size ≤ e.g) ∧ (news δ).Pairwise (fun a b => a.g ≠ b.g) := by
  have h := calls hf hb follows K args hp recs (fun γ => val (pick k ix γ)) (fun γ => pos.zip (news (pick k ix γ))) w hhp hrecs.all heq
  refine h.mono ?_
  rintro e w' ⟨γ, h1, h2, h3, h4⟩
  refine ⟨pick k ix γ, fun q hq => if_neg (by omega), h1, h2, fun e he => ?_, ?_⟩
  · obtain ⟨i, hi⟩ := List.getElem_of_mem he
    obtain ⟨hi1, hi2⟩ := hi
    have hm : ((pos[i]'(by rw [hlen (pick k ix γ)]; exact hi1)), e) ∈ pos.zip (news (pick k ix γ)) := by
      rw [List.mem_iff_getElem]
      exact ⟨i, by rw [List.length_zip, hlen (pick k ix γ)]; simpa using hi1, by rw [List.getElem_zip, hi2]⟩
    have := h3 _ hm
    exact ⟨this.1, this.2 (hown _ e he)⟩
  · have hz := zip_pairwise (news (pick k ix γ)) pos (fun a b => a.2.g ≠ b.2.g) hpos (hlen _) fun p hpm q hqm hne => h4 p hpm q hqm hne (hown _ _ (List.of_mem_zip (a := p.1) (b := p.2) hpm).2)
    have e1 : (news (pick k ix γ)) = (pos.zip (news (pick k ix γ))).map (·.2) := by
      rw [List.map_snd_zip]
      rw [hlen (pick k ix γ)]
      exact Nat.le_refl _
    rw [e1, List.pairwise_map]
    exact hz

/-- a row that is made -/
def mkR (d t ty n j : Nat) (cs : List Value) : Rec := .eff (some d) [] (fun _ => []) (fun _ => do pure (.value (← Instr.makeSlice t (I (n : Nat)) (I (n : Nat))))) 1 (fun _ δ => SL (δ 0) 0 n n) (fun _ _ => []) (fun _ δ => [⟨δ 0, cs, [], ty, true⟩]) (.at_ j)
theorem mkR_ok {w0 : World} {d t e n j size bytes : Nat} {z : Array Value} (he : Elt Try.prog t e size bytes z) (hn : n ≤ 1000) (hb : bytes ≤ 1000) (hsz : size ≤ 1000) : (mkR d t e n j (zs z n)).Ok Try.prog w0 := by
  intro γ w _ _ _
  cases hq : Try.prog.info? e with
  | none => have := he.i; simp [hq] at this
  | some i =>
    have hi := he.i
    rw [hq] at hi
    simp only [Option.map_some, Option.some.injEq, Prod.mk.injEq] at hi
    obtain ⟨hz, hs, hby⟩ := hi
    cases hzq : i.zero with
    | none => rw [hzq] at hz; cases hz
    | some z0 =>
      rw [hzq] at hz
      simp only [Option.map_some, Option.some.injEq] at hz
      have hbb : (i.bytes : Int) * (n : Int) ≤ 281474976710656 := by
        have h1 : i.bytes * n ≤ 1000 * 1000 := Nat.mul_le_mul (by omega) hn
        have h2 : ((i.bytes * n : Nat) : Int) ≤ 1000000 := by omega
        rw [Int.natCast_mul] at h2
        omega
      have hrun := run_makeSlice (P := Try.prog) w t e i z0 he.t hq hzq .i64 .i64 (n : Int) (n : Int) (by omega) (Int.le_refl _) (by
        rw [Int.toNat_natCast, hs, ← he.zs]
        have h1 : n * z.size ≤ 1000 * z.size := Nat.mul_le_mul_right _ hn
        have h3 : z.size ≤ 1000 := by rw [he.zs]; exact hsz
        omega) hbb (by omega)
      simp only [Int.toNat_natCast] at hrun
      refine .inl ⟨_, _, run_val hrun, fun q => if q = 0 then w.heap.size else 0, fun q hq => if_neg (by omega), rfl, ⟨rfl, rfl, rfl, by simp, fun b hb' _ => Below.heap_alloc w _ b hb', fun _ h => (by cases h), fun e' he' => ?_, fun _ h => (by cases h), fun _ h => (by cases h), List.pairwise_singleton _ _⟩⟩
      simp only [List.mem_cons, List.not_mem_nil, or_false] at he'
      subst he'
      refine ⟨⟨(0, 0), ?_, fun _ => rfl⟩, Nat.le_refl _⟩
      refine (World.alloc_heap_new w _).trans ?_
      show some (Obj.cells _ _ _) = some (Obj.cells _ _ _)
      congr 2
      rw [hz, hs, ← he.zs]
      apply Array.ext'
      rfl

theorem setL_wcs : ∀ (os : List W9) (i : Nat) (p : W9), i < os.length → setL (wcs os) (0 + i * 9) (W9.l p) = wcs (os.set i p)
  | [], i, _, h => by cases h
  | q :: os, 0, p, _ => rfl
  | q :: os, i + 1, p, h => by
    show setL (W9.l q ++ wcs os) (0 + (i + 1) * 9) (W9.l p) = W9.l q ++ wcs (os.set i p)
    rw [← setL_wcs os i p (by simpa using h), show 0 + (i + 1) * 9 = (W9.l q).length + (0 + i * 9) by rw [w9_len]; omega, setL_app]
theorem setL_inf : ∀ (os : List W9) (i : Nat), os[i]? = some W0 → setL (wcs os) (0 + i * 9 + 8) [.bool true] = wcs (os.set i ⟨0, 0, true⟩)
  | [], i, h => by simp at h
  | q :: os, 0, h => by
    simp only [List.getElem?_cons_zero, Option.some.injEq] at h
    subst h
    rfl
  | q :: os, i + 1, h => by
    show setL (W9.l q ++ wcs os) (0 + (i + 1) * 9 + 8) [.bool true] = W9.l q ++ wcs (os.set i ⟨0, 0, true⟩)
    rw [← setL_inf os i (by simpa using h), show 0 + (i + 1) * 9 + 8 = (W9.l q).length + (0 + i * 9 + 8) by rw [w9_len]; omega, setL_app]

/-- the loops that add -/
noncomputable def suO : Code := (loopsOf (Fx Try.f48)).getD 1 .skip
noncomputable def suI : Code := (loopsOf (Fx Try.f48)).getD 2 .skip
def ouE (g : Nat) (cs : List Value) : Ent := ⟨g, cs, [], 26, true⟩
def suOS (ov : Value) (n0 : Nat) (cs : List Value) (gl : List Nat) (i : Nat) : St :=
  ⟨frOf 77 [(0, ov), (6, SL (gl.getD 0 0) 0 n0 n0), (41, I (n0 : Nat)), (42, I (i : Nat))], tgOf 77 [(6, .at_ 0)], [ouE (gl.getD 0 0) cs]⟩
def suIS (ov : Value) (n n0 i : Nat) (cs : List Value) (gl : List Nat) (j : Nat) : St :=
  ⟨frOf 77 [(0, ov), (6, SL (gl.getD 0 0) 0 n0 n0), (7, I (i : Nat)), (41, I (n0 : Nat)), (42, I (i : Nat)), (49, ov), (50, I (n : Nat)), (51, I (j : Nat))], tgOf 77 [(6, .at_ 0)], [ouE (gl.getD 0 0) cs]⟩
def suIE : St := ⟨frOf 77 [(2, .slice none 0 0), (3, I 30)], tgOf 77 [], []⟩
def suIR (og oo n ocap n0 i j go : Nat) (cs : List Value) (g off cap : Nat) (q c r : W9) (er : Nat) : List Rec :=
  [rn 52 (lsX j n) (.bool true), ixF 53 79 og oo n ocap j (oo + j * 1), ldW 54 40 og (oo + j * 1) (SL g off n0 cap), ixF 58 40 go 0 n0 n0 i (0 + i * 9), ldF 59 0 (ouE go cs) 26 (0 + i * 9) (PV q.x q.y q.inf),
    ixF 62 40 g off n0 cap i (off + i * 9), ldW 63 26 g (off + i * 9) (PV c.x c.y c.inf), pc 17 [PV q.x q.y q.inf, PV c.x c.y c.inf] (.tuple #[PV r.x r.y r.inf, I (er : Nat)])]
def suIT (n0 i j go : Nat) (cs : List Value) (r : W9) : List Rec := [ixF 73 40 go 0 n0 n0 i (0 + i * 9), stR 73 26 0 (ouE go cs) (0 + i * 9) (PV r.x r.y r.inf) (W9.l r), rn 74 (adX j) (I (j + 1 : Nat))]
theorem suI_go (og oo n ocap n0 i j : Nat) (cs : List Value) (g off cap : Nat) (q c r : W9) (gl : List Nat) (γ : Nat → Nat) :
    Goes suI (suIS (SL og oo n ocap) n n0 i cs gl j) (suIR og oo n ocap n0 i j (gl.getD 0 0) cs g off cap q c r 0 ++ suIT n0 i j (gl.getD 0 0) cs r) γ .normal (suIS (SL og oo n ocap) n n0 i (setL cs (0 + i * 9) (W9.l r)) gl (j + 1)) := by
  show _ = _; kernel_rfl
theorem suI_bad (og oo n ocap n0 i j : Nat) (cs : List Value) (g off cap : Nat) (q c r : W9) (gl : List Nat) (γ : Nat → Nat) :
    Goes suI (suIS (SL og oo n ocap) n n0 i cs gl j) (suIR og oo n ocap n0 i j (gl.getD 0 0) cs g off cap q c r 30) γ .ret suIE := by
  show _ = _; kernel_rfl
theorem suI_out (ov : Value) (n n0 i : Nat) (cs : List Value) (gl : List Nat) (γ : Nat → Nat) : Goes suI (suIS ov n n0 i cs gl n) [rn 52 (lsX n n) (.bool false)] γ (.exit 4) (suIS ov n n0 i cs gl n) := by
  show _ = _; kernel_rfl
noncomputable def suIRec (ov : Value) (n n0 i : Nat) (cs cs' : List Value) : Rec := .code suI (fun gl => suIS ov n n0 i cs gl 0) (fun gl => suIS ov n n0 i cs' gl n) (.exit 4)
noncomputable def suIBad (ov : Value) (n n0 i : Nat) (cs : List Value) : Rec := .code suI (fun gl => suIS ov n n0 i cs gl 0) (fun _ => suIE) .ret
def suOH (n0 i go : Nat) (cs : List Value) : List Rec := [rn 43 (lsX i n0) (.bool true), ixF 47 40 go 0 n0 n0 i (0 + i * 9), stR 48 4 0 (ouE go cs) (0 + i * 9 + 8) (.bool true) [.bool true]]
theorem suO_go (ov : Value) (n n0 i : Nat) (cs cs' : List Value) (gl : List Nat) (γ : Nat → Nat) (hov : ∃ a c, ov = .slice a n c) :
    Goes suO (suOS ov n0 cs gl i) (suOH n0 i (gl.getD 0 0) cs ++ [suIRec ov n n0 i (setL cs (0 + i * 9 + 8) [.bool true]) cs', rn 75 (adX i) (I (i + 1 : Nat))]) γ .normal (suOS ov n0 cs' gl (i + 1)) := by
  obtain ⟨a, c, rfl⟩ := hov
  show _ = _; kernel_rfl
theorem suO_bad (ov : Value) (n n0 i : Nat) (cs : List Value) (gl : List Nat) (γ : Nat → Nat) (hov : ∃ a c, ov = .slice a n c) :
    Goes suO (suOS ov n0 cs gl i) (suOH n0 i (gl.getD 0 0) cs ++ [suIBad ov n n0 i (setL cs (0 + i * 9 + 8) [.bool true])]) γ .ret suIE := by
  obtain ⟨a, c, rfl⟩ := hov
  show _ = _; kernel_rfl
theorem suO_out (ov : Value) (n0 : Nat) (cs : List Value) (gl : List Nat) (γ : Nat → Nat) : Goes suO (suOS ov n0 cs gl n0) [rn 43 (lsX n0 n0) (.bool false)] γ (.exit 2) (suOS ov n0 cs gl n0) := by
  show _ = _; kernel_rfl

section
variable {og oo ocap n0 : Nat} {oc : List Value} {ot : TypeId} {V : List Value} {Ls : List (List W9)} {w0 : World}
/-- the lists' points -/
structure LpH (w : World) (n0 : Nat) (V : List Value) (Ls : List (List W9)) : Prop where
  at_ : ∀ (i : Nat) (v : Value), V[i]? = some v → ∃ l : List W9, Ls[i]? = some l ∧ LstIn w v n0 l
  len : Ls.length = V.length

/-- the i-th of all, added up -/
noncomputable def smC (Ls : List (List W9)) (i : Nat) : Cp := Ls.foldl (fun s l => s + cpT (l[i]?.getD W0)) Cp.o
theorem smC_snoc (Ls : List (List W9)) (l : List W9) (i : Nat) : smC (Ls ++ [l]) i = smC Ls i + cpT (l[i]?.getD W0) := by simp [smC]
noncomputable def ouW (Ls : List (List W9)) (i : Nat) : W9 := wOf (smC Ls i).1
theorem ouW_lt (Ls : List (List W9)) (i : Nat) : (ouW Ls i).lt := ⟨ltR (ptX_lt _), ltR (ptY_lt _)⟩
noncomputable def rowsW (Ls : List (List W9)) (n0 i : Nat) (s : W9) : List W9 := (List.range n0).map fun t => if t < i then ouW Ls t else if t = i then s else W0
theorem rowsW_len (n0 i : Nat) (s : W9) : (rowsW Ls n0 i s).length = n0 := by simp [rowsW]
theorem rowsW_get {n0 i : Nat} (h : i < n0) (s : W9) : (rowsW Ls n0 i s)[i]? = some s := by
  unfold rowsW
  rw [List.getElem?_map, List.getElem?_range h]
  simp
theorem rowsW_set {n0 i : Nat} (s r : W9) : (rowsW Ls n0 i s).set i r = rowsW Ls n0 i r := by
  unfold rowsW
  apply List.ext_getElem?
  intro t
  by_cases ht : t < n0
  · rw [List.getElem?_set]
    by_cases hti : i = t
    · subst hti
      simp [ht]
    · rw [if_neg hti, List.getElem?_map, List.getElem?_map, List.getElem?_range ht]
      simp [show ¬ t = i from fun h => hti h.symm]
  · rw [List.getElem?_eq_none (by simp; omega), List.getElem?_eq_none (by simp; omega)]
theorem rowsW_next (n0 i : Nat) : rowsW Ls n0 i (ouW Ls i) = rowsW Ls n0 (i + 1) W0 := by
  unfold rowsW
  apply List.map_congr_left
  intro t _
  by_cases h1 : t < i
  · rw [if_pos h1, if_pos (by omega)]
  · rw [if_neg h1]
    by_cases h2 : t = i
    · rw [if_pos h2, if_pos (by omega), h2]
    · rw [if_neg h2, if_neg (by omega)]
      by_cases h3 : t = i + 1
      · rw [if_pos h3]
      · rw [if_neg h3]
theorem rowsW_zero (n0 : Nat) : rowsW Ls n0 0 W0 = List.replicate n0 W0 := by
  unfold rowsW
  apply List.ext_getElem
  · simp
  · intro i h1 h2
    simp
theorem rowsW_end (n0 : Nat) : rowsW Ls n0 n0 W0 = (List.range n0).map (ouW Ls) := by
  unfold rowsW
  apply List.map_congr_left
  intro t ht
  rw [if_pos (by simpa using ht)]

theorem inf_w : (⟨0, 0, true⟩ : W9) = wOf Cp.o.1 := rfl
theorem add_w {A : Cp} {c : W9} (h : isPt c.x c.y c.inf = true) : Pure 17 [PV (wOf A.1).x (wOf A.1).y (wOf A.1).inf, PV c.x c.y c.inf] (.tuple #[PV (wOf (A + cpT c).1).x (wOf (A + cpT c).1).y (wOf (A + cpT c).1).inf, I (0 : Nat)]) := by
  have e : PV c.x c.y c.inf = PVt (cpT c).1 := by rw [cpT_val h]; exact PV_pt h
  rw [e]
  exact f17_S A.2 (cpT c).2

/-- what the inner loop's round is told -/
theorem suIR_ok (H : LsH w0 og oo oc ot V) (HL : LpH w0 n0 V Ls) {i j go : Nat} (hi : i < n0) {v : Value} (hv : V[j]? = some v) (s r : W9) (er : Nat) {l : List W9} (hl : Ls[j]? = some l)
    (h17 : ∀ c, l[i]? = some c → Pure 17 [PV s.x s.y s.inf, PV c.x c.y c.inf] (.tuple #[PV r.x r.y r.inf, I (er : Nat)])) :
    ∃ g off cap c, l[i]? = some c ∧ RecsOk w0 (suIR og oo V.length ocap n0 i j go (wcs (rowsW Ls n0 i s)) g off cap s c r er) := by
  obtain ⟨l', hl', g, off, cap, kc, kt, rfl, hn, hh, HP⟩ := HL.at_ j v hv
  rw [hl] at hl'
  cases hl'
  obtain ⟨c, hc⟩ : ∃ c, l[i]? = some c := ⟨_, List.getElem?_eq_getElem (by omega)⟩
  obtain ⟨td, hu, hd⟩ := un26
  refine ⟨g, off, cap, c, hc, rn_ok (lsX_true (lt_of_get hv)), ix79_ok (lt_of_get hv), ld79_ok H hv, ixF_ok sl40 sz26 hi rfl, ldP_ok (fun k u hk => ?_), ixF_ok sl40 sz26 hi rfl, ?_, pc_ok (h17 c hc), trivial⟩
  · have h1 := flat_get (f := W9.l) (c := 9) (fun _ => rfl) (rowsW Ls n0 i s) i k s u (rowsW_get hi s) hk
    show (wcs (rowsW Ls n0 i s))[0 + i * 9 + k]? = some u
    rw [Nat.zero_add]
    exact h1
  · exact ldW_row (e := xE g kc kt) (cs := W9.l c) hh (HP.at_ i c hc) hu hd (by rw [sz26]; rfl)

/-- the point of list l at i, added to what has come -/
theorem smC_take {i j : Nat} {l : List W9} {c : W9} (hl : Ls[j]? = some l) (hc : l[i]? = some c) : smC (Ls.take (j + 1)) i = smC (Ls.take j) i + cpT c := by
  rw [List.take_add_one, hl]
  show smC (Ls.take j ++ [l]) i = _
  rw [smC_snoc, hc]
  rfl
noncomputable def ouP (Ls : List (List W9)) (i j : Nat) : W9 := wOf (smC (Ls.take j) i).1

theorem suI_next (H : LsH w0 og oo oc ot V) (HL : LpH w0 n0 V Ls) {i j : Nat} (hi : i < n0) {v : Value} (hv : V[j]? = some v) {l : List W9} (hl : Ls[j]? = some l) (hok : ∀ c, l[i]? = some c → isPt c.x c.y c.inf = true) (gl : List Nat) :
    ∃ recs, RecsOk w0 recs ∧ ∀ γ, Goes suI (suIS (SL og oo V.length ocap) V.length n0 i (wcs (rowsW Ls n0 i (ouP Ls i j))) gl j) recs γ .normal (suIS (SL og oo V.length ocap) V.length n0 i (wcs (rowsW Ls n0 i (ouP Ls i (j + 1)))) gl (j + 1)) := by
  have hn := H.n
  have hlt := lt_of_get hv
  have hr : ∀ c, l[i]? = some c → ouP Ls i (j + 1) = wOf (smC (Ls.take j) i + cpT c).1 := fun c hc => by unfold ouP; rw [smC_take hl hc]
  obtain ⟨g, off, cap, c, hc, h1⟩ := suIR_ok (ocap := ocap) (go := gl.getD 0 0) H HL hi hv (ouP Ls i j) (ouP Ls i (j + 1)) 0 hl (fun c hc => by rw [hr c hc]; exact add_w (hok c hc))
  refine ⟨_, h1.append (m := suIT n0 i j (gl.getD 0 0) (wcs (rowsW Ls n0 i (ouP Ls i j))) (ouP Ls i (j + 1))) ⟨ixF_ok sl40 sz26 hi rfl, ?_, rn_ok (adX_eq (by omega)), trivial⟩, fun γ => ?_⟩
  · exact st_row (cs := W9.l (ouP Ls i (j + 1))) rfl (by show 0 + i * 9 + 9 ≤ (wcs _).length; rw [wcs_len, rowsW_len]; omega) (by rw [sz26]; rfl) (w9_one _)
  · have h2 := suI_go og oo V.length ocap n0 i j (wcs (rowsW Ls n0 i (ouP Ls i j))) g off cap (ouP Ls i j) c (ouP Ls i (j + 1)) gl γ
    rw [setL_wcs _ _ _ (by rw [rowsW_len]; exact hi), rowsW_set] at h2
    exact h2

theorem suI_end (H : LsH w0 og oo oc ot V) (HL : LpH w0 n0 V Ls) {i : Nat} (hi : i < n0) (hok : ∀ l ∈ Ls, ∀ c, l[i]? = some c → isPt c.x c.y c.inf = true) :
    (suIRec (SL og oo V.length ocap) V.length n0 i (wcs (rowsW Ls n0 i ⟨0, 0, true⟩)) (wcs (rowsW Ls n0 i (ouW Ls i)))).Ok Try.prog w0 := by
  have e1 : ouP Ls i V.length = ouW Ls i := by unfold ouP ouW; rw [List.take_of_length_le (by rw [HL.len]; exact Nat.le_refl _)]
  refine Rec.ok_code follows (fun gl j => suIS (SL og oo V.length ocap) V.length n0 i (wcs (rowsW Ls n0 i (ouP Ls i j))) gl j) (fun j => j ≤ V.length) (fun j => V.length - j) (.exit 4) (fun gl => suIS (SL og oo V.length ocap) V.length n0 i (wcs (rowsW Ls n0 i (ouW Ls i))) gl V.length) (fun h => by cases h) 0 (Nat.zero_le _) (fun gl j hj => ?_)
  by_cases hlt : j < V.length
  · obtain ⟨v, hv⟩ : ∃ v, V[j]? = some v := ⟨_, List.getElem?_eq_getElem hlt⟩
    obtain ⟨l, hl, _⟩ := HL.at_ j v hv
    obtain ⟨recs, h1, h2⟩ := suI_next (ocap := ocap) H HL hi hv hl (hok l (List.mem_of_getElem? hl)) gl
    exact .go (j + 1) (by omega) (by omega) 8 recs h1.all h2
  · have e : j = V.length := by omega
    subst e
    refine .stop 8 [rn 52 (lsX V.length V.length) (.bool false)] (RecsOk.all ⟨rn_ok (lsX_false (Nat.le_refl _)), trivial⟩) (fun γ => ?_)
    rw [e1]
    exact suI_out _ V.length n0 i _ gl γ
theorem suI_fail (H : LsH w0 og oo oc ot V) (HL : LpH w0 n0 V Ls) {i j0 : Nat} (hi : i < n0) {l0 : List W9} (hl0 : Ls[j0]? = some l0) {c0 : W9} (hc0 : l0[i]? = some c0) (hbad : c0.ok = false) (hok : ∀ (j : Nat) (l : List W9), j < j0 → Ls[j]? = some l → ∀ c, l[i]? = some c → isPt c.x c.y c.inf = true) :
    (suIBad (SL og oo V.length ocap) V.length n0 i (wcs (rowsW Ls n0 i ⟨0, 0, true⟩))).Ok Try.prog w0 := by
  refine Rec.ok_code follows (fun gl j => suIS (SL og oo V.length ocap) V.length n0 i (wcs (rowsW Ls n0 i (ouP Ls i j))) gl j) (fun j => j ≤ j0) (fun j => j0 - j) .ret (fun _ => suIE) (fun h => by cases h) 0 (Nat.zero_le _) (fun gl j hj => ?_)
  have hj0 : j0 < V.length := by rw [← HL.len]; exact lt_of_get hl0
  obtain ⟨v, hv⟩ : ∃ v, V[j]? = some v := ⟨_, List.getElem?_eq_getElem (by omega)⟩
  by_cases hlt : j < j0
  · obtain ⟨l, hl, _⟩ := HL.at_ j v hv
    obtain ⟨recs, h1, h2⟩ := suI_next (ocap := ocap) H HL hi hv hl (hok j l hlt hl) gl
    exact .go (j + 1) (by omega) (by omega) 8 recs h1.all h2
  · have e : j = j0 := by omega
    subst e
    obtain ⟨g, off, cap, c, hc, h1⟩ := suIR_ok (ocap := ocap) (go := gl.getD 0 0) H HL hi hv (ouP Ls i j) W0 30 hl0 (fun c hc => by
      rw [hc0] at hc
      cases hc
      obtain ⟨l', hl', g, off, cap, kc, kt, _, hn, _, HP⟩ := HL.at_ j v hv
      rw [hl0] at hl'
      cases hl'
      have hcl := HP.lt c0 (List.mem_of_getElem? hc0)
      exact f17_no (ltR (ptX_lt _)) (ltR (ptY_lt _)) hcl.1 hcl.2 (fun hh => by unfold W9.ok at hbad; rw [hh.2] at hbad; cases hbad))
    exact .stop 8 _ h1.all (fun γ => suI_bad og oo V.length ocap n0 i j _ g off cap (ouP Ls i j) c W0 gl γ)

theorem suOH_ok {i go : Nat} (hi : i < n0) : RecsOk w0 (suOH n0 i go (wcs (rowsW Ls n0 i W0))) :=
  ⟨rn_ok (lsX_true hi), ixF_ok sl40 sz26 hi rfl, st_one rfl (by show 0 + i * 9 + 8 < (wcs _).length; rw [wcs_len, rowsW_len]; omega) (by kernel_rfl) ⟨true, rfl⟩, trivial⟩
theorem suO_next (H : LsH w0 og oo oc ot V) (HL : LpH w0 n0 V Ls) {i : Nat} (hi : i < n0) (hn0 : n0 ≤ 10) (hok : ∀ l ∈ Ls, ∀ c, l[i]? = some c → isPt c.x c.y c.inf = true) (gl : List Nat) :
    ∃ recs, RecsOk w0 recs ∧ ∀ γ, Goes suO (suOS (SL og oo V.length ocap) n0 (wcs (rowsW Ls n0 i W0)) gl i) recs γ .normal (suOS (SL og oo V.length ocap) n0 (wcs (rowsW Ls n0 (i + 1) W0)) gl (i + 1)) := by
  have hI := suI_end (ocap := ocap) H HL hi hok
  have ei : setL (wcs (rowsW Ls n0 i W0)) (0 + i * 9 + 8) [.bool true] = wcs (rowsW Ls n0 i ⟨0, 0, true⟩) := by rw [setL_inf _ _ (rowsW_get hi W0), rowsW_set]
  rw [← ei, rowsW_next] at hI
  exact ⟨_, (suOH_ok hi).append (m := [suIRec (SL og oo V.length ocap) V.length n0 i (setL (wcs (rowsW Ls n0 i W0)) (0 + i * 9 + 8) [.bool true]) (wcs (rowsW Ls n0 (i + 1) W0)), rn 75 (adX i) (I (i + 1 : Nat))]) ⟨hI, rn_ok (adX_eq (by omega)), trivial⟩,
    fun γ => suO_go (SL og oo V.length ocap) V.length n0 i _ _ gl γ ⟨_, _, rfl⟩⟩
noncomputable def suORec (ov : Value) (n0 : Nat) (cs cs' : List Value) : Rec := .code suO (fun gl => suOS ov n0 cs gl 0) (fun gl => suOS ov n0 cs' gl n0) (.exit 2)
noncomputable def suOBad (ov : Value) (n0 : Nat) (cs : List Value) : Rec := .code suO (fun gl => suOS ov n0 cs gl 0) (fun _ => suIE) .ret
theorem suO_end (H : LsH w0 og oo oc ot V) (HL : LpH w0 n0 V Ls) (hn0 : n0 ≤ 10) (hok : ∀ l ∈ Ls, pts l = true) :
    (suORec (SL og oo V.length ocap) n0 (wcs (List.replicate n0 W0)) (wcs ((List.range n0).map (ouW Ls)))).Ok Try.prog w0 := by
  unfold suORec
  rw [← rowsW_zero (Ls := Ls), ← rowsW_end]
  refine Rec.ok_code follows (fun gl i => suOS (SL og oo V.length ocap) n0 (wcs (rowsW Ls n0 i W0)) gl i) (fun i => i ≤ n0) (fun i => n0 - i) (.exit 2) (fun gl => suOS (SL og oo V.length ocap) n0 (wcs (rowsW Ls n0 n0 W0)) gl n0) (fun h => by cases h) 0 (Nat.zero_le _) (fun gl i hi => ?_)
  by_cases hlt : i < n0
  · obtain ⟨recs, h1, h2⟩ := suO_next (ocap := ocap) H HL hlt hn0 (fun l hl c hc => pts_true (hok l hl) c (List.mem_of_getElem? hc)) gl
    exact .go (i + 1) (by omega) (by omega) 8 recs h1.all h2
  · have e : i = n0 := by omega
    subst e
    exact .stop 8 [rn 43 (lsX i i) (.bool false)] (RecsOk.all ⟨rn_ok (lsX_false (Nat.le_refl _)), trivial⟩) (fun γ => suO_out _ i _ gl γ)
/-- the first place at which a point is none -/
theorem first_bad (Ls : List (List W9)) (hlen : ∀ l ∈ Ls, l.length = n0) (hbad : ¬ ∀ l ∈ Ls, pts l = true) : ∃ i j l c, i < n0 ∧ Ls[j]? = some l ∧ l[i]? = some c ∧ c.ok = false ∧
    (∀ (j' : Nat) (l' : List W9), j' < j → Ls[j']? = some l' → ∀ c, l'[i]? = some c → isPt c.x c.y c.inf = true) ∧ ∀ i', i' < i → ∀ l ∈ Ls, ∀ c, l[i']? = some c → isPt c.x c.y c.inf = true := by
  rcases all_or (fun i => Ls.all fun l => (l[i]?.getD ⟨0, 0, true⟩).ok) (List.range n0) with h | ⟨i, i', h1, h2, h3⟩
  · exfalso
    refine hbad fun l hl => pts_of fun p hp => ?_
    obtain ⟨i, hi⟩ := List.getElem?_of_mem hp
    have := h i (by rw [List.mem_range, ← hlen l hl]; exact lt_of_get hi)
    rw [List.all_eq_true] at this
    have := this l hl
    rw [hi] at this
    exact this
  · have hi := lt_of_get h1
    rw [List.length_range] at hi
    rw [List.getElem?_range hi] at h1
    cases h1
    rcases all_or (fun l : List W9 => (l[i]?.getD ⟨0, 0, true⟩).ok) Ls with h | ⟨j, l, h4, h5, h6⟩
    · rw [List.all_eq_true.2 h] at h2
      cases h2
    · obtain ⟨c, hc⟩ : ∃ c, l[i]? = some c := ⟨_, List.getElem?_eq_getElem (by rw [hlen l (List.mem_of_getElem? h4)]; exact hi)⟩
      rw [hc] at h5
      refine ⟨i, j, l, c, hi, h4, hc, h5, fun j' l' hj' hl' c' hc' => ?_, fun i' hi' l' hl' c' hc' => ?_⟩
      · have := h6 j' l' hj' hl'
        rw [hc'] at this
        exact this
      · have := h3 i' i' hi' (List.getElem?_range (by omega))
        rw [List.all_eq_true] at this
        have := this l' hl'
        rw [hc'] at this
        exact this
theorem suO_fail (H : LsH w0 og oo oc ot V) (HL : LpH w0 n0 V Ls) (hn0 : n0 ≤ 10) (hlen : ∀ l ∈ Ls, l.length = n0) (hbad : ¬ ∀ l ∈ Ls, pts l = true) :
    (suOBad (SL og oo V.length ocap) n0 (wcs (List.replicate n0 W0))).Ok Try.prog w0 := by
  obtain ⟨i0, j0, l0, c0, hi0, hl0, hc0, hb0, hj0, hp0⟩ := first_bad Ls hlen hbad
  unfold suOBad
  rw [← rowsW_zero (Ls := Ls)]
  refine Rec.ok_code follows (fun gl i => suOS (SL og oo V.length ocap) n0 (wcs (rowsW Ls n0 i W0)) gl i) (fun i => i ≤ i0) (fun i => i0 - i) .ret (fun _ => suIE) (fun h => by cases h) 0 (Nat.zero_le _) (fun gl i hi => ?_)
  by_cases hlt : i < i0
  · obtain ⟨recs, h1, h2⟩ := suO_next (ocap := ocap) H HL (Nat.lt_trans hlt hi0) hn0 (hp0 i hlt) gl
    exact .go (i + 1) (by omega) (by omega) 8 recs h1.all h2
  · have e : i = i0 := by omega
    subst e
    have hI := suI_fail (ocap := ocap) H HL hi0 hl0 hc0 hb0 hj0
    have ei : setL (wcs (rowsW Ls n0 i W0)) (0 + i * 9 + 8) [.bool true] = wcs (rowsW Ls n0 i ⟨0, 0, true⟩) := by rw [setL_inf _ _ (rowsW_get hi0 W0), rowsW_set]
    rw [← ei] at hI
    exact .stop 8 _ ((suOH_ok hi0).append (m := [suIBad (SL og oo V.length ocap) V.length n0 i (setL (wcs (rowsW Ls n0 i W0)) (0 + i * 9 + 8) [.bool true])]) ⟨hI, trivial⟩).all (fun γ => suO_bad (SL og oo V.length ocap) V.length n0 i _ gl γ ⟨_, _, rfl⟩)
end

/-- feld.Sum -/
noncomputable def suV (n0 : Nat) (δ : Nat → Nat) : Value := .tuple #[SL (δ 0) 0 n0 n0, I 0]
noncomputable def suN (Ls : List (List W9)) (n0 : Nat) (δ : Nat → Nat) : List Ent := [ouE (δ 0) (wcs ((List.range n0).map (ouW Ls)))]
def suBeg (og oo n ocap n0 : Nat) (v0 : Value) (A : Rec) : List Rec := [rn 14 (eqN n 0) (.bool false), A, ixF 36 79 og oo n ocap 0 (oo + 0 * 1), ldW 37 40 og (oo + 0 * 1) v0, mkR 39 40 26 n0 0 (wcs (List.replicate n0 W0))]
noncomputable def suAok (ov : Value) (n : Nat) : Rec := .code suA (fun _ => suAS ov n 0) (fun _ => suAS ov n n) (.exit 0)
noncomputable def suAno (ov : Value) (n : Nat) : Rec := .code suA (fun _ => suAS ov n 0) (fun _ => suAE) .ret
theorem eqN_false {n m : Nat} (h : n ≠ m) : eqN n m = .bool false := by
  have h' : ¬ (n : Int) = (m : Int) := by omega
  unfold eqN
  congr 1
  simpa using h'
theorem f48_rawG (og oo n ocap n0 g0 o0 c0 : Nat) (cs : List Value) (Ls : List (List W9)) (hcs : cs = wcs ((List.range n0).map (ouW Ls))) (γ : Nat → Nat) :
    outL Try.prog Try.f48.results.toList ([0].zip (suN Ls n0 (pick 1 (fun q => q) γ))) (exec Try.prog (Fx Try.f48) ⟨Ex.start Try.f48.ntmps [(SL og oo n ocap, .no)] [], (List.range 8).map γ, suBeg og oo n ocap n0 (SL g0 o0 n0 c0) (suAok (SL og oo n ocap) n) ++ [suORec (SL og oo n ocap) n0 (wcs (List.replicate n0 W0)) cs], []⟩) =
      outR Try.prog Try.f48.results.toList ([0].zip (suN Ls n0 (pick 1 (fun q => q) γ))) (suV n0 (pick 1 (fun q => q) γ)) (exec Try.prog (Fx Try.f48) ⟨Ex.start Try.f48.ntmps [(SL og oo n ocap, .no)] [], (List.range 8).map γ, suBeg og oo n ocap n0 (SL g0 o0 n0 c0) (suAok (SL og oo n ocap) n) ++ [suORec (SL og oo n ocap) n0 (wcs (List.replicate n0 W0)) cs], []⟩) := by
  subst hcs
  unfold suN
  generalize wcs ((List.range n0).map (ouW Ls)) = cs
  generalize wcs (List.replicate n0 W0) = c0
  kernel_rfl
section
variable {og oo ocap n0 : Nat} {oc : List Value} {ot : TypeId} {V : List Value} {Ls : List (List W9)} {w : World}
theorem suBeg_ok (H : LsH w og oo oc ot V) {v0 : Value} (h0 : V[0]? = some v0) (hn0 : n0 ≤ 10) {A : Rec} (hA : A.Ok Try.prog w) : RecsOk w (suBeg og oo V.length ocap n0 v0 A) :=
  ⟨rn_ok (eqN_false (by have := lt_of_get h0; omega)), hA, ix79_ok (lt_of_get h0), ld79_ok H h0, by rw [wcs_zero]; exact mkR_ok elt40 (by omega) (by omega) (by omega), trivial⟩
theorem lok_all (HL : LpH w n0 V Ls) (hd : deg n0 = true) : ∀ v ∈ V, lok n0 v = true := fun v hv => by
  obtain ⟨i, hi⟩ := List.getElem?_of_mem hv
  obtain ⟨l, _, g, off, cap, kc, kt, rfl, _⟩ := HL.at_ i v hi
  simp [lok, lenV, SL, hd]
theorem f48_good (H : LsH w og oo oc ot V) (HL : LpH w n0 V Ls) (h0 : 0 < V.length) (hd : deg n0 = true) (hp : ∀ l ∈ Ls, pts l = true) :
    Calls Try.prog 48 #[SL og oo V.length ocap] w fun e w' => ∃ δ : Nat → Nat, (∀ q, 1 ≤ q → δ q = 0) ∧ e = .returned (suV n0 δ) ∧ Below w.heap.size w w' ∧ (∀ e ∈ suN Ls n0 δ, e.holds w' ∧ w.heap.size ≤ e.g) ∧ (suN Ls n0 δ).Pairwise (fun a b => a.g ≠ b.g) := by
  obtain ⟨v0, hv0⟩ : ∃ v0, V[0]? = some v0 := ⟨_, List.getElem?_eq_getElem h0⟩
  obtain ⟨l0, hl0, g0, o0, c0, kc, kt, rfl, _⟩ := HL.at_ 0 v0 hv0
  have hn0 := (deg_true hd).2
  have hA : (suAok (SL og oo V.length ocap) V.length).Ok Try.prog w := suA_end H hv0 (lok_all HL hd)
  exact makes_w Try.func48 rfl 8 [(SL og oo V.length ocap, .no)] [] _ 1 (fun q => q) [0] (suV n0) (suN Ls n0) w (fun e he => by cases he)
    ((suBeg_ok H hv0 hn0 hA).append (m := [suORec (SL og oo V.length ocap) n0 (wcs (List.replicate n0 W0)) (wcs ((List.range n0).map (ouW Ls)))]) ⟨suO_end H HL hn0 hp, trivial⟩) (by decide) (fun _ => rfl) (fun δ e he => by simp only [suN, List.mem_cons, List.not_mem_nil, or_false] at he; subst he; rfl) (fun γ => f48_rawG og oo V.length ocap n0 g0 o0 c0 _ Ls rfl γ)
theorem f48_bad (H : LsH w og oo oc ot V) (HL : LpH w n0 V Ls) (h0 : 0 < V.length) (hd : deg n0 = true) (hp : ¬ ∀ l ∈ Ls, pts l = true) :
    Calls Try.prog 48 #[SL og oo V.length ocap] w fun e w' => e = .returned (.tuple #[.slice none 0 0, I 30]) ∧ Below w.heap.size w w' := by
  obtain ⟨v0, hv0⟩ : ∃ v0, V[0]? = some v0 := ⟨_, List.getElem?_eq_getElem h0⟩
  obtain ⟨l0, hl0, g0, o0, c0, kc, kt, rfl, _⟩ := HL.at_ 0 v0 hv0
  have hn0 := (deg_true hd).2
  have hA : (suAok (SL og oo V.length ocap) V.length).Ok Try.prog w := suA_end H hv0 (lok_all HL hd)
  have hlen : ∀ l ∈ Ls, l.length = n0 := fun l hl => by
    obtain ⟨i, hi⟩ := List.getElem?_of_mem hl
    obtain ⟨v, hv⟩ : ∃ v, V[i]? = some v := ⟨_, List.getElem?_eq_getElem (by rw [← HL.len]; exact lt_of_get hi)⟩
    obtain ⟨l', hl', _, _, _, _, _, _, hn, _⟩ := HL.at_ i v hv
    rw [hi] at hl'
    cases hl'
    exact hn
  have hO := suO_fail (ocap := ocap) H HL hn0 hlen hp
  have hr := (suBeg_ok (ocap := ocap) H hv0 hn0 hA).append (m := [suOBad (SL og oo V.length ocap) n0 (wcs (List.replicate n0 W0))]) ⟨hO, trivial⟩
  generalize V.length = n at *
  generalize wcs (List.replicate n0 W0) = cs at *
  exact calls0 Try.func48 rfl follows 8 [(SL og oo n ocap, .no)] [] _ _ w (fun e he => by cases he) hr.all (fun γ => by kernel_rfl)
theorem f48_len (H : LsH w og oo oc ot V) {v0 : Value} (hv0 : V[0]? = some v0) (hl : ¬ ∀ v ∈ V, lok (lenV v0) v = true) :
    Calls Try.prog 48 #[SL og oo V.length ocap] w fun e w' => e = .returned (.tuple #[.slice none 0 0, I 1]) ∧ Below w.heap.size w w' := by
  rcases all_or (lok (lenV v0)) V with h | ⟨i, v, h1, h2, h3⟩
  · exact absurd h hl
  · have hA : (suAno (SL og oo V.length ocap) V.length).Ok Try.prog w := suA_bad H hv0 h1 h2 h3
    have h0 := lt_of_get hv0
    have hr : RecsOk w [rn 14 (eqN V.length 0) (.bool false), suAno (SL og oo V.length ocap) V.length] := ⟨rn_ok (eqN_false (by omega)), hA, trivial⟩
    generalize V.length = n at *
    exact calls0 Try.func48 rfl follows 8 [(SL og oo n ocap, .no)] [] _ _ w (fun e he => by cases he) hr.all (fun γ => by kernel_rfl)
end
theorem f48_nil {a : Option Addr} {c : Nat} : Pure 48 [.slice a 0 c] (.tuple #[.slice none 0 0, I 1]) :=
  pure_of Try.func48 rfl 8 [.slice a 0 c] [] _ (fun _ => trivial) (fun γ => by kernel_rfl)

end Go.Proofs.Ytildcmggcbdhpaa
