/- The document's sums of lists of commitments. No conditions but that the lists' points stand where their values say. -/
import Derived.Test.YtildcmggcbdhpaaFeldS1
namespace Go.Proofs.Ytildcmggcbdhpaa
open Go.Ex Go.RowKit Lim
set_option maxRecDepth 100000

noncomputable def ruA : Code := (loopsOf (Fx Try.f49)).getD 0 .skip
def ruAS (ov : Value) (n i : Nat) : St := ⟨frOf 80 [(0, ov), (16, ov), (17, I (n : Nat)), (18, I (i : Nat))], tgOf 80 [], []⟩
def ruAE (e : Nat) : St := ⟨frOf 80 [(2, .slice none 0 0), (3, I (e : Nat))], tgOf 80 [], []⟩
def ruAH (og oo n cap i : Nat) (v : Value) (m : Nat) (b : Bool) : List Rec := [rn 19 (lsX i n) (.bool true), ixF 20 79 og oo n cap i (oo + i * 1), ldW 21 40 og (oo + i * 1) v, rn 24 (lsX m 1) (.bool b)]
def ruAT (og oo n cap m n0 : Nat) (v0 : Value) (b : Bool) : List Rec := [ixF 34 79 og oo n cap 0 (oo + 0 * 1), ldW 35 40 og (oo + 0 * 1) v0, rn 37 (nqX m n0) (.bool b)]
theorem ruA_go (og oo n cap i : Nat) (a a0 : Option Addr) (m c n0 c0 : Nat) (γ : Nat → Nat) :
    Goes ruA (ruAS (SL og oo n cap) n i) (ruAH og oo n cap i (.slice a m c) m false ++ (rn 28 (grX m 10) (.bool false) :: (ruAT og oo n cap m n0 (.slice a0 n0 c0) false ++ [rn 39 (adX i) (I (i + 1 : Nat))]))) γ .normal (ruAS (SL og oo n cap) n (i + 1)) := by
  show _ = _; kernel_rfl
theorem ruA_bad1 (og oo n cap i : Nat) (a : Option Addr) (m c : Nat) (γ : Nat → Nat) :
    Goes ruA (ruAS (SL og oo n cap) n i) (ruAH og oo n cap i (.slice a m c) m true) γ .ret (ruAE 1) := by
  show _ = _; kernel_rfl
theorem ruA_bad2 (og oo n cap i : Nat) (a : Option Addr) (m c : Nat) (γ : Nat → Nat) :
    Goes ruA (ruAS (SL og oo n cap) n i) (ruAH og oo n cap i (.slice a m c) m false ++ [rn 28 (grX m 10) (.bool true)]) γ .ret (ruAE 1) := by
  show _ = _; kernel_rfl
theorem ruA_bad3 (og oo n cap i : Nat) (a a0 : Option Addr) (m c n0 c0 : Nat) (γ : Nat → Nat) :
    Goes ruA (ruAS (SL og oo n cap) n i) (ruAH og oo n cap i (.slice a m c) m false ++ (rn 28 (grX m 10) (.bool false) :: ruAT og oo n cap m n0 (.slice a0 n0 c0) true)) γ .ret (ruAE 1) := by
  show _ = _; kernel_rfl
theorem ruA_out (ov : Value) (n : Nat) (γ : Nat → Nat) : Goes ruA (ruAS ov n n) [rn 19 (lsX n n) (.bool false)] γ (.exit 0) (ruAS ov n n) := by
  show _ = _; kernel_rfl

section
variable {og oo ocap n0 : Nat} {oc : List Value} {ot : TypeId} {V : List Value} {Ls : List (List W9)} {w0 : World}
theorem ruAH_ok (H : LsH w0 og oo oc ot V) {i : Nat} {v : Value} (hv : V[i]? = some v) {m : Nat} {b : Bool} (hb : lsX m 1 = .bool b) : RecsOk w0 (ruAH og oo V.length ocap i v m b) :=
  ⟨rn_ok (lsX_true (lt_of_get hv)), ix79_ok (lt_of_get hv), ld79_ok H hv, rn_ok hb, trivial⟩
theorem ruA_next (H : LsH w0 og oo oc ot V) {v0 : Value} (h0 : V[0]? = some v0) {i : Nat} {v : Value} (hv : V[i]? = some v) (hk : lok (lenV v0) v = true) :
    ∃ recs, RecsOk w0 recs ∧ ∀ (_ : List Nat) γ, Goes ruA (ruAS (SL og oo V.length ocap) V.length i) recs γ .normal (ruAS (SL og oo V.length ocap) V.length (i + 1)) := by
  obtain ⟨a, m, c, rfl⟩ := H.sl v (List.mem_of_getElem? hv)
  obtain ⟨a0, n0, c0, rfl⟩ := H.sl v0 (List.mem_of_getElem? h0)
  have hlt := lt_of_get hv
  have hn := H.n
  simp only [lok, lenV, Bool.and_eq_true, beq_iff_eq] at hk
  have hd := deg_true hk.1
  exact ⟨_, (ruAH_ok (ocap := ocap) H hv (lsX_false hd.1)).append (m := rn 28 (grX m 10) (.bool false) :: (ruAT og oo V.length ocap m n0 (.slice a0 n0 c0) false ++ [rn 39 (adX i) (I (i + 1 : Nat))]))
    ⟨rn_ok (grX_false hd.2), ix79_ok (lt_of_get h0), ld79_ok H h0, rn_ok (by rw [hk.2]; exact nqX_false _), rn_ok (adX_eq (by omega)), trivial⟩,
    fun _ γ => ruA_go og oo V.length ocap i a a0 m c n0 c0 γ⟩
noncomputable def ruAok (ov : Value) (n : Nat) : Rec := .code ruA (fun _ => ruAS ov n 0) (fun _ => ruAS ov n n) (.exit 0)
noncomputable def ruAno (ov : Value) (n : Nat) : Rec := .code ruA (fun _ => ruAS ov n 0) (fun _ => ruAE 1) .ret
theorem ruA_end (H : LsH w0 og oo oc ot V) {v0 : Value} (h0 : V[0]? = some v0) (hk : ∀ v ∈ V, lok (lenV v0) v = true) : (ruAok (SL og oo V.length ocap) V.length).Ok Try.prog w0 :=
  scan_end (fun _ i => ruAS (SL og oo V.length ocap) V.length i) _ 0 V.length (fun i hi => by
    obtain ⟨v, hv⟩ : ∃ v, V[i]? = some v := ⟨_, List.getElem?_eq_getElem hi⟩
    exact ruA_next H h0 hv (hk v (List.mem_of_getElem? hv))) ⟨[rn 19 (lsX V.length V.length) (.bool false)], ⟨rn_ok (lsX_false (Nat.le_refl _)), trivial⟩, fun _ γ => ruA_out _ V.length γ⟩
theorem ruA_bad (H : LsH w0 og oo oc ot V) {v0 : Value} (h0 : V[0]? = some v0) {i : Nat} {v : Value} (hv : V[i]? = some v) (hk : lok (lenV v0) v = false) (hj : ∀ (j : Nat) (u : Value), j < i → V[j]? = some u → lok (lenV v0) u = true) : (ruAno (SL og oo V.length ocap) V.length).Ok Try.prog w0 := by
  refine scan_bad (fun _ i => ruAS (SL og oo V.length ocap) V.length i) _ i (fun j hji => ?_) ?_
  · have := lt_of_get hv
    obtain ⟨u, hu⟩ : ∃ u, V[j]? = some u := ⟨_, List.getElem?_eq_getElem (by omega)⟩
    exact ruA_next H h0 hu (hj j u hji hu)
  · obtain ⟨a, m, c, rfl⟩ := H.sl v (List.mem_of_getElem? hv)
    obtain ⟨a0, n0, c0, rfl⟩ := H.sl v0 (List.mem_of_getElem? h0)
    by_cases h1 : m < 1
    · exact ⟨_, ruAH_ok (ocap := ocap) H hv (lsX_true h1), fun _ γ => ruA_bad1 og oo V.length ocap i a m c γ⟩
    · by_cases h2 : 10 < m
      · exact ⟨_, (ruAH_ok (ocap := ocap) H hv (lsX_false (by omega))).append (m := [rn 28 (grX m 10) (.bool true)]) ⟨rn_ok (grX_true h2), trivial⟩, fun _ γ => ruA_bad2 og oo V.length ocap i a m c γ⟩
      · have hd : deg m = true := by simp [deg]; omega
        simp only [lok, lenV, hd, Bool.true_and, beq_eq_false_iff_ne] at hk
        exact ⟨_, (ruAH_ok (ocap := ocap) H hv (lsX_false (by omega))).append (m := rn 28 (grX m 10) (.bool false) :: ruAT og oo V.length ocap m n0 (.slice a0 n0 c0) true) ⟨rn_ok (grX_false (by omega)), ix79_ok (lt_of_get h0), ld79_ok H h0, rn_ok (nqX_true hk), trivial⟩,
          fun _ γ => ruA_bad3 og oo V.length ocap i a a0 m c n0 c0 γ⟩

/-- the second loop: are all points? -/
noncomputable def ruB : Code := (loopsOf (Fx Try.f49)).getD 1 .skip
def ruBS (ov : Value) (n i : Nat) : St := ⟨frOf 80 [(0, ov), (40, ov), (41, I (n : Nat)), (42, I (i : Nat))], tgOf 80 [], []⟩
def ruBH (og oo n cap i : Nat) (v : Value) (b : Bool) : List Rec := [rn 43 (lsX i n) (.bool true), ixF 44 79 og oo n cap i (oo + i * 1), ldW 45 40 og (oo + i * 1) v, pc 93 [v] (.bool b)]
theorem ruB_go (og oo n cap i : Nat) (v : Value) (γ : Nat → Nat) :
    Goes ruB (ruBS (SL og oo n cap) n i) (ruBH og oo n cap i v true ++ [rn 49 (adX i) (I (i + 1 : Nat))]) γ .normal (ruBS (SL og oo n cap) n (i + 1)) := by
  show _ = _; kernel_rfl
theorem ruB_bad (og oo n cap i : Nat) (v : Value) (γ : Nat → Nat) : Goes ruB (ruBS (SL og oo n cap) n i) (ruBH og oo n cap i v false) γ .ret (ruAE 30) := by
  show _ = _; kernel_rfl
theorem ruB_out (ov : Value) (n : Nat) (γ : Nat → Nat) : Goes ruB (ruBS ov n n) [rn 43 (lsX n n) (.bool false)] γ (.exit 2) (ruBS ov n n) := by
  show _ = _; kernel_rfl
theorem ruBH_ok (H : LsH w0 og oo oc ot V) (HL : LpH w0 n0 V Ls) {i : Nat} {v : Value} (hv : V[i]? = some v) {l : List W9} (hl : Ls[i]? = some l) {b : Bool} (hb : pts l = b) : RecsOk w0 (ruBH og oo V.length ocap i v b) := by
  obtain ⟨l', hl', g, off, cap, kc, kt, rfl, hn, hh, HP⟩ := HL.at_ i v hv
  rw [hl] at hl'
  cases hl'
  have h93 := f93_ok (pg := g) (cap := cap) (pt' := kt) HP
  rw [hn, hb] at h93
  exact ⟨rn_ok (lsX_true (lt_of_get hv)), ix79_ok (lt_of_get hv), ld79_ok H hv, pcW_ok h93 (fun e he => by simp only [List.mem_cons, List.not_mem_nil, or_false] at he; subst he; exact hh), trivial⟩
theorem ruB_next (H : LsH w0 og oo oc ot V) (HL : LpH w0 n0 V Ls) {i : Nat} {v : Value} (hv : V[i]? = some v) {l : List W9} (hl : Ls[i]? = some l) (hb : pts l = true) :
    ∃ recs, RecsOk w0 recs ∧ ∀ (_ : List Nat) γ, Goes ruB (ruBS (SL og oo V.length ocap) V.length i) recs γ .normal (ruBS (SL og oo V.length ocap) V.length (i + 1)) := by
  have hn := H.n
  have hlt := lt_of_get hv
  exact ⟨_, (ruBH_ok (ocap := ocap) H HL hv hl hb).append (m := [rn 49 (adX i) (I (i + 1 : Nat))]) ⟨rn_ok (adX_eq (by omega)), trivial⟩, fun _ γ => ruB_go og oo V.length ocap i v γ⟩
noncomputable def ruBok (ov : Value) (n : Nat) : Rec := .code ruB (fun _ => ruBS ov n 0) (fun _ => ruBS ov n n) (.exit 2)
noncomputable def ruBno (ov : Value) (n : Nat) : Rec := .code ruB (fun _ => ruBS ov n 0) (fun _ => ruAE 30) .ret
theorem ruB_end (H : LsH w0 og oo oc ot V) (HL : LpH w0 n0 V Ls) (hp : ∀ l ∈ Ls, pts l = true) : (ruBok (SL og oo V.length ocap) V.length).Ok Try.prog w0 :=
  scan_end (fun _ i => ruBS (SL og oo V.length ocap) V.length i) _ 2 V.length (fun i hi => by
    obtain ⟨v, hv⟩ : ∃ v, V[i]? = some v := ⟨_, List.getElem?_eq_getElem hi⟩
    obtain ⟨l, hl, _⟩ := HL.at_ i v hv
    exact ruB_next H HL hv hl (hp l (List.mem_of_getElem? hl))) ⟨[rn 43 (lsX V.length V.length) (.bool false)], ⟨rn_ok (lsX_false (Nat.le_refl _)), trivial⟩, fun _ γ => ruB_out _ V.length γ⟩
theorem ruB_no (H : LsH w0 og oo oc ot V) (HL : LpH w0 n0 V Ls) (hp : ¬ ∀ l ∈ Ls, pts l = true) : (ruBno (SL og oo V.length ocap) V.length).Ok Try.prog w0 := by
  rcases all_or pts Ls with h | ⟨i, l, h1, h2, h3⟩
  · exact absurd h hp
  · have hi : i < V.length := by rw [← HL.len]; exact lt_of_get h1
    refine scan_bad (fun _ i => ruBS (SL og oo V.length ocap) V.length i) _ i (fun j hji => ?_) ?_
    · obtain ⟨u, hu⟩ : ∃ u, V[j]? = some u := ⟨_, List.getElem?_eq_getElem (by omega)⟩
      obtain ⟨l', hl', _⟩ := HL.at_ j u hu
      exact ruB_next H HL hu hl' (h3 j l' hji hl')
    · obtain ⟨v, hv⟩ : ∃ v, V[i]? = some v := ⟨_, List.getElem?_eq_getElem hi⟩
      exact ⟨_, ruBH_ok (ocap := ocap) H HL hv h1 h2, fun _ γ => ruB_bad og oo V.length ocap i v γ⟩
end

/-- the loops that add -/
noncomputable def ruO : Code := (loopsOf (Fx Try.f49)).getD 2 .skip
noncomputable def ruI : Code := (loopsOf (Fx Try.f49)).getD 3 .skip
def ruH (b : Bool) (c1 : J) (cs : List Value) (gl : List Nat) (s : J) : List Ent := match b with
  | false => [oE (gl.getD 0 0) s]
  | true => [oE (gl.getD 0 0) c1, ouE (gl.getD 1 0) cs, oE (gl.getD 2 0) s]
def ruIS (b : Bool) (ov : Value) (n n0 i room : Nat) (c1 : J) (cs : List Value) (gl : List Nat) (j : Nat) (s : J) : St :=
  ⟨frOf 80 [(0, ov), (8, match b with | false => .slice none 0 0 | true => SL (gl.getD 1 0) 0 i (i + room)), (9, I (i : Nat)), (10, PT (gl.getD (match b with | false => 0 | true => 2) 0)), (53, I (n0 : Nat)), (54, I (i : Nat)), (59, ov), (60, I (n : Nat)), (61, I (j : Nat))],
    tgOf 80 [(8, match b with | false => .no | true => .at_ 1), (10, .at_ (match b with | false => 0 | true => 2))], ruH b c1 cs gl s⟩
def ruIR (og oo n ocap n0 i j : Nat) (g off cap : Nat) (c : W9) (s o s' : J) : List Rec :=
  [rn 62 (lsX j n) (.bool true), ixF 63 79 og oo n ocap j (oo + j * 1), ldW 64 40 og (oo + j * 1) (SL g off n0 cap), ixF 68 40 g off n0 cap i (off + i * 9), ldW 69 26 g (off + i * 9) (PV c.x c.y c.inf), pc 62 [PV c.x c.y c.inf] (jv o), pc 61 [jv s, jv o] (jv s'), rn 72 (adX j) (I (j + 1 : Nat))]
theorem ruI_go (b : Bool) (og oo n ocap n0 i room j : Nat) (c1 : J) (cs : List Value) (g off cap : Nat) (c : W9) (s o s' : J) (gl : List Nat) (γ : Nat → Nat) :
    Goes ruI (ruIS b (SL og oo n ocap) n n0 i room c1 cs gl j s) (ruIR og oo n ocap n0 i j g off cap c s o s') γ .normal (ruIS b (SL og oo n ocap) n n0 i room c1 cs gl (j + 1) s') := by
  cases b <;> (show _ = _; kernel_rfl)
theorem ruI_out (b : Bool) (ov : Value) (n n0 i room : Nat) (c1 : J) (cs : List Value) (s : J) (gl : List Nat) (γ : Nat → Nat) :
    Goes ruI (ruIS b ov n n0 i room c1 cs gl n s) [rn 62 (lsX n n) (.bool false)] γ (.exit 6) (ruIS b ov n n0 i room c1 cs gl n s) := by
  cases b <;> (show _ = _; kernel_rfl)
noncomputable def ruIRec (b : Bool) (ov : Value) (n n0 i room : Nat) (c1 : J) (cs : List Value) (s : J) : Rec := .code ruI (fun gl => ruIS b ov n n0 i room c1 cs gl 0 ⟨0, 1, 0⟩) (fun gl => ruIS b ov n n0 i room c1 cs gl n s) (.exit 6)
def ruO0 (ov : Value) (n0 : Nat) : St := ⟨frOf 80 [(0, ov), (8, .slice none 0 0), (53, I (n0 : Nat)), (54, I (0 : Nat))], tgOf 80 [], []⟩
def ruOS (ov : Value) (n0 i : Nat) (c1 : J) (cs : List Value) (g1 g room : Nat) : St :=
  ⟨frOf 80 [(0, ov), (8, SL g 0 i (i + room)), (53, I (n0 : Nat)), (54, I (i : Nat))], tgOf 80 [(8, .at_ 1)], [oE g1 c1, ouE g cs]⟩
def ruOZ (n0 : Nat) (c1 : J) (cs : List Value) (g1 g cap : Nat) : St := ⟨frOf 80 [(8, SL g 0 n0 cap)], tgOf 80 [(8, .at_ 1)], [oE g1 c1, ouE g cs]⟩
theorem ruO_go0 (ov : Value) (n n0 : Nat) (c1 s : J) (cs : List Value) (r : W9) (γ : Nat → Nat) (hov : ∃ a c, ov = .slice a n c) :
    Goes ruO (ruO0 ov n0) [rn 55 (lsX 0 n0) (.bool true), pc 62 [PV 0 0 true] (jv ⟨0, 1, 0⟩), ruIRec false ov n n0 0 0 c1 cs s, pc 60 [jv s] (PV r.x r.y r.inf), ap0 77 1 40 40 26 26 z9 1 1 (W9.l r), rn 78 (adX 0) (I 1)] γ .normal (ruOS ov n0 1 s (W9.l r ++ zs z9 (γ 3)) (γ 0) (γ 2) (γ 3)) := by
  obtain ⟨a, c, rfl⟩ := hov
  show _ = _; kernel_rfl
theorem ruO_go (ov : Value) (n n0 i : Nat) (c1 s : J) (xs : List Value) (g1 g room : Nat) (r : W9) (γ : Nat → Nat) (hov : ∃ a c, ov = .slice a n c) :
    Goes ruO (ruOS ov n0 i c1 (xs ++ zs z9 room) g1 g room) [rn 55 (lsX i n0) (.bool true), pc 62 [PV 0 0 true] (jv ⟨0, 1, 0⟩), ruIRec true ov n n0 i room c1 (xs ++ zs z9 room) s, pc 60 [jv s] (PV r.x r.y r.inf), apF 77 40 40 26 26 z9 1 3 i 1 room xs (W9.l r), rn 78 (adX i) (I (i + 1 : Nat))] γ .normal
      (ruOS ov n0 (i + 1) c1 (xs ++ (W9.l r ++ zs z9 (γ 3))) g1 (γ 2) (γ 3)) := by
  obtain ⟨a, c, rfl⟩ := hov
  show _ = _; kernel_rfl
theorem ruO_out (ov : Value) (n0 : Nat) (c1 : J) (cs : List Value) (g1 g room : Nat) (γ : Nat → Nat) : Goes ruO (ruOS ov n0 n0 c1 cs g1 g room) [rn 55 (lsX n0 n0) (.bool false)] γ (.exit 4) (ruOZ n0 c1 cs g1 g (n0 + room)) := by
  show _ = _; kernel_rfl

noncomputable def sJ (Ls : List (List W9)) (i : Nat) : J := Ls.foldl (fun s l => opl s (l[i]?.getD W0).o) ⟨0, 1, 0⟩
theorem sJ_snoc (Ls : List (List W9)) (l : List W9) (i : Nat) : sJ (Ls ++ [l]) i = opl (sJ Ls i) (l[i]?.getD W0).o := by simp [sJ]
theorem o_is {c : W9} (h : isPt c.x c.y c.inf = true) : OO c.o (cpT c).1 ∧ c.o.lt := by
  obtain ⟨hx, hy⟩ := valid_lt h
  exact ⟨by rw [cpT_val h]; exact oIn_OO c.x c.y c.inf, oIn_lt hx hy _⟩

section
variable {og oo ocap n0 : Nat} {oc : List Value} {ot : TypeId} {V : List Value} {Ls : List (List W9)} {w0 : World}
theorem sJ_take {i j : Nat} {l : List W9} {c : W9} (hl : Ls[j]? = some l) (hc : l[i]? = some c) : sJ (Ls.take (j + 1)) i = opl (sJ (Ls.take j) i) c.o := by
  rw [List.take_add_one, hl]
  show sJ (Ls.take j ++ [l]) i = _
  rw [sJ_snoc, hc]
  rfl
theorem sJ_is {i : Nat} (hlen : ∀ l ∈ Ls, l.length = n0) (hi : i < n0) (hp : ∀ l ∈ Ls, pts l = true) : ∀ j, j ≤ Ls.length → OO (sJ (Ls.take j) i) (smC (Ls.take j) i).1 ∧ (sJ (Ls.take j) i).lt
  | 0, _ => ⟨OO_inf, ⟨P_pos, (by decide : 1 < P), P_pos⟩⟩
  | j + 1, hj => by
    obtain ⟨l, hl⟩ : ∃ l, Ls[j]? = some l := ⟨_, List.getElem?_eq_getElem (by omega)⟩
    have hm := List.mem_of_getElem? hl
    obtain ⟨c, hc⟩ : ∃ c, l[i]? = some c := ⟨_, List.getElem?_eq_getElem (by rw [hlen l hm]; exact hi)⟩
    obtain ⟨h1, h2⟩ := sJ_is hlen hi hp j (by omega)
    obtain ⟨h3, h4⟩ := o_is (pts_true (hp l hm) c (List.mem_of_getElem? hc))
    rw [sJ_take hl hc, smC_take hl hc]
    exact ⟨OO_opl h1 h3 h2 h4, opl_lt h2 h4⟩

theorem ruI_next (H : LsH w0 og oo oc ot V) (HL : LpH w0 n0 V Ls) {b : Bool} {i j room : Nat} {c1 : J} {cs : List Value} (hi : i < n0) (hlen : ∀ l ∈ Ls, l.length = n0) (hp : ∀ l ∈ Ls, pts l = true) (hj : j < V.length) :
    ∃ recs, RecsOk w0 recs ∧ ∀ gl γ, Goes ruI (ruIS b (SL og oo V.length ocap) V.length n0 i room c1 cs gl j (sJ (Ls.take j) i)) recs γ .normal (ruIS b (SL og oo V.length ocap) V.length n0 i room c1 cs gl (j + 1) (sJ (Ls.take (j + 1)) i)) := by
  obtain ⟨v, hv⟩ : ∃ v, V[j]? = some v := ⟨_, List.getElem?_eq_getElem hj⟩
  obtain ⟨l, hl, g, off, cap, kc, kt, rfl, hn, hh, HP⟩ := HL.at_ j v hv
  have hm := List.mem_of_getElem? hl
  obtain ⟨c, hc⟩ : ∃ c, l[i]? = some c := ⟨_, List.getElem?_eq_getElem (by omega)⟩
  obtain ⟨td, hu, hd⟩ := un26
  have hV := H.n
  obtain ⟨_, h2⟩ := sJ_is hlen hi hp j (by rw [HL.len]; omega)
  obtain ⟨_, h4⟩ := o_is (pts_true (hp l hm) c (List.mem_of_getElem? hc))
  have h61 := f61_ok h2 h4
  rw [sJ_take hl hc]
  exact ⟨ruIR og oo V.length ocap n0 i j g off cap c (sJ (Ls.take j) i) c.o (opl (sJ (Ls.take j) i) c.o), ⟨rn_ok (lsX_true hj), ix79_ok hj, ld79_ok H hv, ixF_ok sl40 sz26 hi rfl, ldW_row (e := xE g kc kt) (cs := W9.l c) hh (HP.at_ i c hc) hu hd (by rw [sz26]; rfl), pc_ok (f62_ok (x := c.x) (y := c.y) c.inf), pc_ok h61, rn_ok (adX_eq (by omega)), trivial⟩,
    fun gl γ => ruI_go b og oo V.length ocap n0 i room j c1 cs g off cap c _ _ _ gl γ⟩
theorem ruI_end (H : LsH w0 og oo oc ot V) (HL : LpH w0 n0 V Ls) (b : Bool) {i : Nat} (room : Nat) (c1 : J) (cs : List Value) (hi : i < n0) (hlen : ∀ l ∈ Ls, l.length = n0) (hp : ∀ l ∈ Ls, pts l = true) :
    (ruIRec b (SL og oo V.length ocap) V.length n0 i room c1 cs (sJ Ls i)).Ok Try.prog w0 := by
  have e1 : Ls.take V.length = Ls := List.take_of_length_le (by rw [HL.len]; exact Nat.le_refl _)
  have h := scan_end (c := ruI) (w0 := w0) (fun gl j => ruIS b (SL og oo V.length ocap) V.length n0 i room c1 cs gl j (sJ (Ls.take j) i)) (fun gl => ruIS b (SL og oo V.length ocap) V.length n0 i room c1 cs gl V.length (sJ (Ls.take V.length) i)) 6 V.length (fun j hj => ruI_next H HL hi hlen hp hj)
    ⟨[rn 62 (lsX V.length V.length) (.bool false)], ⟨rn_ok (lsX_false (Nat.le_refl _)), trivial⟩, fun gl γ => ruI_out b _ V.length n0 i room c1 cs _ gl γ⟩
  rw [e1] at h
  exact h

abbrev RuI := Nat × Nat × Nat × Nat
noncomputable def ouR (Ls : List (List W9)) (n : Nat) : List W9 := (List.range n).map (ouW Ls)
theorem ouR_succ (n : Nat) : ouR Ls (n + 1) = ouR Ls n ++ [ouW Ls n] := by simp [ouR, List.range_succ]
noncomputable def ruOI (ov : Value) (n0 : Nat) (Ls : List (List W9)) (s : RuI) : St := match s with
  | (0, _) => ruO0 ov n0
  | (i + 1, g1, g, room) => ruOS ov n0 (i + 1) (sJ Ls 0) (wcs (ouR Ls (i + 1)) ++ zs z9 room) g1 g room
noncomputable def ruORec (ov : Value) (n0 : Nat) (Ls : List (List W9)) : Rec :=
  .codeN ruO 3 (fun _ => ruO0 ov n0) (fun _ δ => ruOZ n0 (sJ Ls 0) (wcs (ouR Ls n0) ++ zs z9 (δ 1 - n0)) (δ 2) (δ 0) (δ 1)) (.exit 4)
theorem ruORec_ok (H : LsH w0 og oo oc ot V) (HL : LpH w0 n0 V Ls) (h1 : 1 ≤ n0) (h10 : n0 ≤ 10) (hlen : ∀ l ∈ Ls, l.length = n0) (hp : ∀ l ∈ Ls, pts l = true) : (ruORec (SL og oo V.length ocap) n0 Ls).Ok Try.prog w0 := by
  refine Rec.ok_codeN follows (fun _ => ruOI (SL og oo V.length ocap) n0 Ls) (fun s => s.1 ≤ n0) (fun s => n0 - s.1) (.exit 4) 3 (fun _ δ => ruOZ n0 (sJ Ls 0) (wcs (ouR Ls n0) ++ zs z9 (δ 1 - n0)) (δ 2) (δ 0) (δ 1)) (fun h => by cases h) (0, 0, 0, 0) (Nat.zero_le _) (fun gl s hk => ?_)
  obtain ⟨i, g1, g, room⟩ := s
  have hk' : i ≤ n0 := hk
  have e1 : Ls.take Ls.length = Ls := List.take_of_length_le (Nat.le_refl _)
  by_cases hlt : i < n0
  · have hJ := sJ_is hlen hlt hp Ls.length (Nat.le_refl _)
    rw [e1] at hJ
    have h60 : Pure 60 [jv (sJ Ls i)] (PV (ouW Ls i).x (ouW Ls i).y (ouW Ls i).inf) := f60_ok hJ.1 hJ.2
    have h620 := f62_ok (x := 0) (y := 0) true
    cases i with
    | zero =>
      have hI := ruI_end (ocap := ocap) H HL false 0 ⟨0, 0, 0⟩ [] hlt hlen hp
      refine .go (fun γ => (1, γ 0, γ 2, γ 3)) (fun γ => by show 1 ≤ n0; omega) (fun γ => by show n0 - 1 < n0 - 0; omega) 8 [rn 55 (lsX 0 n0) (.bool true), pc 62 [PV 0 0 true] (jv ⟨0, 1, 0⟩), ruIRec false (SL og oo V.length ocap) V.length n0 0 0 ⟨0, 0, 0⟩ [] (sJ Ls 0), pc 60 [jv (sJ Ls 0)] (PV (ouW Ls 0).x (ouW Ls 0).y (ouW Ls 0).inf), ap0 77 1 40 40 26 26 z9 1 1 (W9.l (ouW Ls 0)), rn 78 (adX 0) (I 1)]
        (RecsOk.all ⟨rn_ok (lsX_true hlt), pc_ok h620, hI, pc_ok h60, ap0_ok elt40 (by decide) (w9_len _) (by decide) (by decide), rn_ok rfl, trivial⟩) (fun γ => ?_)
      have e : wcs (ouR Ls 1) = W9.l (ouW Ls 0) := List.append_nil _
      show Goes ruO (ruO0 _ n0) _ γ .normal (ruOS _ n0 1 (sJ Ls 0) (wcs (ouR Ls 1) ++ zs z9 (γ 3)) (γ 0) (γ 2) (γ 3))
      rw [e]
      exact ruO_go0 _ V.length n0 ⟨0, 0, 0⟩ _ [] _ γ ⟨_, _, rfl⟩
    | succ i =>
      have hI := ruI_end (ocap := ocap) H HL true room (sJ Ls 0) (wcs (ouR Ls (i + 1)) ++ zs z9 room) hlt hlen hp
      have hxl : (wcs (ouR Ls (i + 1))).length = (i + 1) * 9 := by rw [wcs_len]; simp [ouR]
      refine .go (fun γ => (i + 2, g1, γ 2, γ 3)) (fun γ => by show i + 2 ≤ n0; omega) (fun γ => by show n0 - (i + 2) < n0 - (i + 1); omega) 8 [rn 55 (lsX (i + 1) n0) (.bool true), pc 62 [PV 0 0 true] (jv ⟨0, 1, 0⟩), ruIRec true (SL og oo V.length ocap) V.length n0 (i + 1) room (sJ Ls 0) (wcs (ouR Ls (i + 1)) ++ zs z9 room) (sJ Ls (i + 1)), pc 60 [jv (sJ Ls (i + 1))] (PV (ouW Ls (i + 1)).x (ouW Ls (i + 1)).y (ouW Ls (i + 1)).inf),
          apF 77 40 40 26 26 z9 1 3 (i + 1) 1 room (wcs (ouR Ls (i + 1))) (W9.l (ouW Ls (i + 1))), rn 78 (adX (i + 1)) (I (i + 1 + 1 : Nat))]
        (RecsOk.all ⟨rn_ok (lsX_true hlt), pc_ok h620, hI, pc_ok h60, apF_ok elt40 (by decide) hxl (w9_len _) (w9_one _) (by omega) (by omega), rn_ok (adX_eq (by omega)), trivial⟩) (fun γ => ?_)
      show Goes ruO (ruOS _ n0 (i + 1) (sJ Ls 0) (wcs (ouR Ls (i + 1)) ++ zs z9 room) g1 g room) _ γ .normal (ruOS _ n0 (i + 2) (sJ Ls 0) (wcs (ouR Ls (i + 2)) ++ zs z9 (γ 3)) g1 (γ 2) (γ 3))
      rw [ouR_succ (i + 1), wcs_snoc, List.append_assoc]
      exact ruO_go _ V.length n0 (i + 1) (sJ Ls 0) _ _ g1 g room _ γ ⟨_, _, rfl⟩
  · have e : i = n0 := by omega
    cases i with
    | zero => omega
    | succ i =>
      refine .stop (fun _ q => if q = 0 then g else if q = 1 then n0 + room else if q = 2 then g1 else 0) (fun _ q hq => by show (if q = 0 then g else if q = 1 then n0 + room else if q = 2 then g1 else 0) = 0; rw [if_neg (by omega), if_neg (by omega), if_neg (by omega)]) 8 [rn 55 (lsX n0 n0) (.bool false)] (RecsOk.all ⟨rn_ok (lsX_false (Nat.le_refl _)), trivial⟩) (fun γ => ?_)
      show Goes ruO (ruOS _ n0 (i + 1) (sJ Ls 0) (wcs (ouR Ls (i + 1)) ++ zs z9 room) g1 g room) _ γ (.exit 4) (ruOZ n0 (sJ Ls 0) (wcs (ouR Ls n0) ++ zs z9 (n0 + room - n0)) g1 g (n0 + room))
      rw [e, Nat.add_sub_cancel_left]
      exact ruO_out _ n0 _ _ g1 g room γ

noncomputable def ruN (Ls : List (List W9)) (n0 : Nat) (δ : Nat → Nat) : List Ent := [rowE (δ 0) (wcs (ouR Ls n0)) (δ 1 - n0)]
theorem len_all (HL : LpH w0 n0 V Ls) : ∀ l ∈ Ls, l.length = n0 := fun l hl => by
  obtain ⟨i, hi⟩ := List.getElem?_of_mem hl
  obtain ⟨v, hv⟩ : ∃ v, V[i]? = some v := ⟨_, List.getElem?_eq_getElem (by rw [← HL.len]; exact lt_of_get hi)⟩
  obtain ⟨l', hl', _, _, _, _, _, _, hn, _⟩ := HL.at_ i v hv
  rw [hi] at hl'
  cases hl'
  exact hn
/-- wardmoteref07.Sum -/
theorem f49_good (H : LsH w0 og oo oc ot V) (HL : LpH w0 n0 V Ls) (h0 : 0 < V.length) (hd : deg n0 = true) (hp : ∀ l ∈ Ls, pts l = true) :
    Calls Try.prog 49 #[SL og oo V.length ocap] w0 fun e w' => ∃ δ : Nat → Nat, (∀ q, 2 ≤ q → δ q = 0) ∧ e = .returned (comV n0 0 δ) ∧ Below w0.heap.size w0 w' ∧ (∀ e ∈ ruN Ls n0 δ, e.holds w' ∧ w0.heap.size ≤ e.g) ∧ (ruN Ls n0 δ).Pairwise (fun a b => a.g ≠ b.g) := by
  obtain ⟨v0, hv0⟩ : ∃ v0, V[0]? = some v0 := ⟨_, List.getElem?_eq_getElem h0⟩
  obtain ⟨l0, hl0, g0, o0, c0, kc, kt, rfl, _⟩ := HL.at_ 0 v0 hv0
  have hd' := deg_true hd
  have hA := ruA_end (ocap := ocap) H hv0 (lok_all HL hd)
  have hB := ruB_end (ocap := ocap) H HL hp
  have hO := ruORec_ok (ocap := ocap) H HL hd'.1 hd'.2 (len_all HL) hp
  have hix : (ixF 51 79 og oo V.length ocap 0 (oo + 0 * 1)).Ok Try.prog w0 := ix79_ok h0
  have hld : (ldW 52 40 og (oo + 0 * 1) (SL g0 o0 n0 c0)).Ok Try.prog w0 := ld79_ok H hv0
  have hr : RecsOk w0 [rn 15 (eqN V.length 0) (.bool false), ruAok (SL og oo V.length ocap) V.length, ruBok (SL og oo V.length ocap) V.length, ixF 51 79 og oo V.length ocap 0 (oo + 0 * 1), ldW 52 40 og (oo + 0 * 1) (SL g0 o0 n0 c0), ruORec (SL og oo V.length ocap) n0 Ls] := ⟨rn_ok (eqN_false (by omega)), hA, hB, hix, hld, hO, trivial⟩
  generalize V.length = n at *
  exact makes_w Try.func49 rfl 8 [(SL og oo n ocap, .no)] [] _ 2 (fun q => q) [1] (comV n0 0) (ruN Ls n0) w0 (fun e he => by cases he) hr (by decide) (fun _ => rfl) (fun δ e he => by simp only [ruN, List.mem_cons, List.not_mem_nil, or_false] at he; subst he; rfl) (fun γ => by kernel_rfl)
theorem f49_bad (H : LsH w0 og oo oc ot V) (HL : LpH w0 n0 V Ls) (h0 : 0 < V.length) (hd : deg n0 = true) (hp : ¬ ∀ l ∈ Ls, pts l = true) :
    Calls Try.prog 49 #[SL og oo V.length ocap] w0 fun e w' => e = .returned (.tuple #[.slice none 0 0, I 30]) ∧ Below w0.heap.size w0 w' := by
  obtain ⟨v0, hv0⟩ : ∃ v0, V[0]? = some v0 := ⟨_, List.getElem?_eq_getElem h0⟩
  obtain ⟨l0, hl0, g0, o0, c0, kc, kt, rfl, _⟩ := HL.at_ 0 v0 hv0
  have hA := ruA_end (ocap := ocap) H hv0 (lok_all HL hd)
  have hB := ruB_no (ocap := ocap) H HL hp
  have hr : RecsOk w0 [rn 15 (eqN V.length 0) (.bool false), ruAok (SL og oo V.length ocap) V.length, ruBno (SL og oo V.length ocap) V.length] := ⟨rn_ok (eqN_false (by omega)), hA, hB, trivial⟩
  generalize V.length = n at *
  exact calls0 Try.func49 rfl follows 8 [(SL og oo n ocap, .no)] [] _ _ w0 (fun e he => by cases he) hr.all (fun γ => by kernel_rfl)
theorem f49_len (H : LsH w0 og oo oc ot V) {v0 : Value} (hv0 : V[0]? = some v0) (hl : ¬ ∀ v ∈ V, lok (lenV v0) v = true) :
    Calls Try.prog 49 #[SL og oo V.length ocap] w0 fun e w' => e = .returned (.tuple #[.slice none 0 0, I 1]) ∧ Below w0.heap.size w0 w' := by
  rcases all_or (lok (lenV v0)) V with h | ⟨i, v, h1, h2, h3⟩
  · exact absurd h hl
  · have hA := ruA_bad (ocap := ocap) H hv0 h1 h2 h3
    have h0 := lt_of_get hv0
    have hr : RecsOk w0 [rn 15 (eqN V.length 0) (.bool false), ruAno (SL og oo V.length ocap) V.length] := ⟨rn_ok (eqN_false (by omega)), hA, trivial⟩
    generalize V.length = n at *
    exact calls0 Try.func49 rfl follows 8 [(SL og oo n ocap, .no)] [] _ _ w0 (fun e he => by cases he) hr.all (fun γ => by kernel_rfl)
end
theorem f49_nil {a : Option Addr} {c : Nat} : Pure 49 [.slice a 0 c] (.tuple #[.slice none 0 0, I 1]) :=
  pure_of Try.func49 rfl 8 [.slice a 0 c] [] _ (fun _ => trivial) (fun γ => by kernel_rfl)

end Go.Proofs.Ytildcmggcbdhpaa
