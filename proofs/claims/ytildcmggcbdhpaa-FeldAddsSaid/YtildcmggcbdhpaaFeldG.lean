/- What commitments tell; feld.Check; the laws' own sample. No conditions but that the row's points stand where their values say. -/
import Derived.Test.YtildcmggcbdhpaaFeldF
namespace Go.Proofs.Ytildcmggcbdhpaa
open Go.Ex Go.RowKit Lim
set_option maxRecDepth 100000

/-- x times what is there, and the next -/
noncomputable def horC (x : Nat) (l : List W9) : Cp := l.foldr (fun p out => Cp.mul x out + cpT p) Cp.o
theorem lin_pws (x : Nat) : ∀ (l : List W9) (i : Nat), Cp.lin (cl (((List.range l.length).map fun j => pw x (i + j)).zip l)) = Cp.mul (pw x i) (horC x l)
  | [], i => by
    show Cp.o = Cp.mul (pw x i) Cp.o
    rw [Cp.mul_o]
  | p :: l, i => by
    have h := lin_pws x l (i + 1)
    have e : (List.range (p :: l).length).map (fun j => pw x (i + j)) = pw x i :: (List.range l.length).map fun j => pw x (i + 1 + j) := by
      rw [List.length_cons, List.range_succ_eq_map, List.map_cons, List.map_map]
      congr 1
      apply List.map_congr_left
      intro j _
      show pw x (i + (j + 1)) = pw x (i + 1 + j)
      congr 1
      omega
    rw [e]
    show Cp.mul (pw x i) (cpT p) + Cp.lin (cl (((List.range l.length).map fun j => pw x (i + 1 + j)).zip l)) = Cp.mul (pw x i) (Cp.mul x (horC x l) + cpT p)
    rw [h, Cp.mul_sum, ← Cp.mul_mul]
    show _ + Cp.mul (pw x i * x % Q) _ = _
    rw [Cp.mod_Q, Cp.comm]
theorem valC_hor (x : Nat) (l : List W9) : valC x l = horC x l := by
  have h := lin_pws x l 0
  rw [show pw x 0 = 1 from rfl, Cp.mul_one] at h
  rw [← h]
  unfold valC pws
  congr 3
  apply List.map_congr_left
  intro j _
  rw [Nat.zero_add]

theorem cpT_com (k : Nat) : cpT (com k) = Cp.mul k Cp.g := cpT_wOf _
theorem mul_hz (x h c : Nat) : Cp.mul (hz x h c) Cp.g = Cp.mul x (Cp.mul h Cp.g) + Cp.mul c Cp.g := by
  unfold hz
  rw [Cp.mod_Q, Cp.mul_add, Cp.mod_Q, ← Cp.mul_mul, Nat.mul_comm h x]
theorem horC_coms (x : Nat) : ∀ l : List Nat, horC x (coms l) = Cp.mul (hor x l.reverse) Cp.g
  | [] => rfl
  | c :: l => by
    show Cp.mul x (horC x (coms l)) + cpT (com c) = _
    rw [horC_coms x l, cpT_com, List.reverse_cons, hor_snoc, mul_hz]
/-- WHAT COMMITMENTS TELL IS THE POLYNOMIAL'S VALUE, times G -/
theorem valC_coms (x : Nat) (l : List Nat) : valC x (coms l) = Cp.mul (hor x l.reverse) Cp.g := by rw [valC_hor, horC_coms]

def same (p q : W9) : Bool := decide (p.x = q.x) && (decide (p.y = q.y) && (p.inf == q.inf))
theorem same_eq {p q : W9} (h : same p q = true) : p = q := by
  obtain ⟨x, y, i⟩ := p
  obtain ⟨x', y', i'⟩ := q
  simp [same] at h
  obtain ⟨rfl, rfl, rfl⟩ := h
  rfl
theorem same_refl (p : W9) : same p p = true := by simp [same]
theorem same_iff {A B : Cp} : same (wOf A.1) (wOf B.1) = true ↔ A = B := by
  refine ⟨fun h => ?_, fun h => by rw [h]; exact same_refl _⟩
  rw [← cpT_wOf A, ← cpT_wOf B, same_eq h]

/-- is it the share? -/
noncomputable def chk (s : Nat) (V : Cp) : Nat := if s < Q then (if same (com s) (wOf V.1) then 0 else 70) else 20
theorem chk_yes {s : Nat} (hs : s < Q) {V : Cp} (h : V = Cp.mul s Cp.g) : chk s V = 0 := by
  unfold chk
  rw [if_pos hs, h]
  exact if_pos (same_refl _)
theorem chk_no {s v : Nat} (hs : s < Q) (hv : v < Q) (h : s ≠ v) : chk s (Cp.mul v Cp.g) = 70 := by
  unfold chk
  rw [if_pos hs, if_neg]
  intro hh
  exact h (Cp.g_inj hs hv (same_iff.1 hh))

def chR (e : Ent) (pv : Value) (x s : Nat) (p c : W9) (b : Bool) : List Rec :=
  [mc 41 [pv, I (x : Nat)] [(0, e)] (.tuple #[PV p.x p.y p.inf, I (0 : Nat)]), pc 71 [] (PV GX GY false), pc 26 [NV s, PV GX GY false] (.tuple #[PV c.x c.y c.inf, I 0]), neP 32 c.x c.y c.inf p.x p.y p.inf b]
section
variable {pg off cap : Nat} {pc' : List Value} {pt' : TypeId} {l : List W9}
/-- feld.Check -/
theorem f43_good (H : PsH pc' off l) (hd : deg l.length = true) {x : Nat} (hx : x ≤ 10) (hp : pts l = true) {s : Nat} (hs : s < R) :
    PureAt [xE pg pc' pt'] 43 [SL pg off l.length cap, I (x : Nat), NV s] (I (chk s (valC x l) : Nat)) := by
  have h41 := f41_good (pg := pg) (cap := cap) (pt' := pt') H hd hx hp
  by_cases hq : s < Q
  · have h26 : Pure 26 [NV s, PV GX GY false] (.tuple #[PV (com s).x (com s).y (com s).inf, I 0]) := f26_yes (p := ⟨GX, GY, false⟩) hq G_is
    have hc := com_lt s
    have hw : (wOf (valC x l).1).lt := ⟨ltR (ptX_lt _), ltR (ptY_lt _)⟩
    have h41' : PureAt [xE pg pc' pt'] 41 [SL pg off l.length cap, I (x : Nat)] (.tuple #[PV (wOf (valC x l).1).x (wOf (valC x l).1).y (wOf (valC x l).1).inf, I (0 : Nat)]) := h41
    have hk : chk s (valC x l) = if same (com s) (wOf (valC x l).1) then 0 else 70 := if_pos hq
    rw [hk]
    generalize wOf (valC x l).1 = p at *
    generalize com s = c at *
    cases hsm : same c p with
    | true =>
      rw [if_pos rfl]
      exact pureAt_of Try.func43 rfl 8 [(SL pg off l.length cap, .at_ 0), (I (x : Nat), .no), (NV s, .no)] [xE pg pc' pt'] (chR (xE pg pc' pt') (SL pg off l.length cap) x s p c false) _ rfl (fun w => ⟨mc_ok h41', pc_ok f71_ok, pc_ok h26, neP_ok hc.1 hc.2 hw.1 hw.2 hsm, trivial⟩) (fun γ => by kernel_rfl)
    | false =>
      rw [if_neg (by simp)]
      exact pureAt_of Try.func43 rfl 8 [(SL pg off l.length cap, .at_ 0), (I (x : Nat), .no), (NV s, .no)] [xE pg pc' pt'] (chR (xE pg pc' pt') (SL pg off l.length cap) x s p c true) _ rfl (fun w => ⟨mc_ok h41', pc_ok f71_ok, pc_ok h26, neP_ok hc.1 hc.2 hw.1 hw.2 hsm, trivial⟩) (fun γ => by kernel_rfl)
  · have hk : chk s (valC x l) = 20 := if_neg hq
    rw [hk]
    have h26 := (f26_no (k := s) (p := ⟨GX, GY, false⟩) hs ⟨by decide, by decide⟩).1 (by omega)
    have h41' : PureAt [xE pg pc' pt'] 41 [SL pg off l.length cap, I (x : Nat)] (.tuple #[PV (wOf (valC x l).1).x (wOf (valC x l).1).y (wOf (valC x l).1).inf, I (0 : Nat)]) := h41
    generalize wOf (valC x l).1 = p at *
    exact pureAt_of Try.func43 rfl 8 [(SL pg off l.length cap, .at_ 0), (I (x : Nat), .no), (NV s, .no)] [xE pg pc' pt'] [mc 41 [SL pg off l.length cap, I (x : Nat)] [(0, xE pg pc' pt')] (.tuple #[PV p.x p.y p.inf, I (0 : Nat)]), pc 71 [] (PV GX GY false), pc 26 [NV s, PV GX GY false] (.tuple #[PV 0 0 false, I 20])] _ rfl (fun w => ⟨mc_ok h41', pc_ok f71_ok, pc_ok h26, trivial⟩) (fun γ => by kernel_rfl)
theorem f43_bad (H : PsH pc' off l) (hd : deg l.length = true) {x : Nat} (hx : x ≤ 10) (hp : pts l = false) {s : Nat} :
    PureAt [xE pg pc' pt'] 43 [SL pg off l.length cap, I (x : Nat), NV s] (I (30 : Nat)) := by
  have h41 := f41_bad (pg := pg) (cap := cap) (pt' := pt') H hd hx hp
  exact pureAt_of Try.func43 rfl 8 [(SL pg off l.length cap, .at_ 0), (I (x : Nat), .no), (NV s, .no)] [xE pg pc' pt'] [mc 41 [SL pg off l.length cap, I (x : Nat)] [(0, xE pg pc' pt')] (.tuple #[PV 0 0 false, I (30 : Nat)])] _ rfl (fun w => ⟨mc_ok h41, trivial⟩) (fun γ => by kernel_rfl)
end
theorem f43_arg {pa : Option Addr} {n cap s : Nat} {x : Int} (h : deg n = false ∨ nod x = false) : Pure 43 [.slice pa n cap, I x, NV s] (I (1 : Nat)) := by
  have h41 := f41_arg (pa := pa) (cap := cap) h
  exact pure_of Try.func43 rfl 8 [.slice pa n cap, I x, NV s] [pc 41 [.slice pa n cap, I x] (.tuple #[PV 0 0 false, I (1 : Nat)])] _ (fun w => ⟨pc_ok h41, trivial⟩) (fun γ => by kernel_rfl)


noncomputable def liC : Rec := .call 37 (fun σ => [SL (σ 0) 0 2 2]) (fun σ => [(0, ⟨σ 0, nl 5 ++ nl 3, [], 24, true⟩)]) 2 (comV 2 0) (comN [5, 3]) (.tup [.at_ 1, .no])
noncomputable def liK (d s e : Nat) : Rec := ec (some d) [] 43 (fun σ => [SL (σ 0) 0 2 (σ 10000), I (2 : Nat), NV s]) (fun σ => [(1, rowE (σ 0) (wcs (coms [5, 3])) (σ 10000 - 2))]) (I (e : Nat))
theorem n53 : NsH (nl 5 ++ nl 3) 0 [5, 3] where
  at_ := fun i k hk j v hv => by
    have h := flat_get (f := nl) (c := 4) (fun _ => rfl) [5, 3] i j k v hk hv
    rw [Nat.zero_add]
    exact h
  lt := fun k hk => by
    simp only [List.mem_cons, List.not_mem_nil, or_false] at hk
    rcases hk with rfl | rfl <;> decide
  n := Nat.le_of_ble_eq_true rfl
theorem liC_ok {w : World} : liC.Ok Try.prog w := fun σ w _ hn => f37_good (kg := σ 0) (cap := 2) (kt := 24) n53 rfl (by decide) w fun e he => by
  simp only [List.mem_cons, List.not_mem_nil, or_false] at he
  subst he
  exact (hn (0, ⟨σ 0, nl 5 ++ nl 3, [], 24, true⟩) (by simp)).weak rfl rfl rfl rfl
theorem liK_ok {w : World} {d s : Nat} (hs : s < Q) : (liK d s (chk s (valC 2 (coms [5, 3])))).Ok Try.prog w := by
  refine ec_ok Try.func43 (by kernel_rfl) rfl (fun σ => ?_)
  refine (f43_good (pg := σ 0) (cap := σ 10000) (pt' := 26) (l := coms [5, 3]) (PsH.flat (σ 10000 - 2) (coms_lt _) (Nat.le_of_ble_eq_true rfl)) rfl (x := 2) (by omega) (coms_is _) (Nat.lt_trans hs Q_R)).of fun w hw e he => ?_
  simp only [List.mem_cons, List.not_mem_nil, or_false] at he
  subst he
  exact (hw (rowE (σ 0) (wcs (coms [5, 3])) (σ 10000 - 2)) (by simp)).weak rfl rfl rfl rfl
theorem val_li : valC 2 (coms [5, 3]) = Cp.mul 11 Cp.g := by
  rw [valC_coms]
  have : hor 2 [5, 3].reverse = 11 := by decide
  rw [this]
/-- wardmotelaw07.line -/
theorem f40_ok : Pure 40 [] (.bool true) := by
  have h1 := fun w : World => liK_ok (w := w) (d := 20) (s := 11) (by decide)
  have h2 := fun w : World => liK_ok (w := w) (d := 26) (s := 12) (by decide)
  rw [val_li, chk_yes (by decide) rfl] at h1
  rw [val_li, chk_no (by decide) (by decide) (by decide)] at h2
  exact pure_of Try.func40 rfl 8 [] [liC, liK 20 11 0, liK 26 12 70] _ (fun w => ⟨liC_ok, h1 w, h2 w, trivial⟩) (fun γ => by kernel_rfl)

end Go.Proofs.Ytildcmggcbdhpaa
