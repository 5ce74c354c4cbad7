/- The law CurveBytes as a function. No conditions but that numbers are below R. -/
import Derived.Test.YtildcmggcbdhpaaCurveJ
namespace Go.Proofs.Ytildcmggcbdhpaa
open Go.Ex Go.RowKit Lim
set_option maxRecDepth 100000

def npW (d : Nat) (p : W9) : Rec := neP d p.x p.y p.inf p.x p.y p.inf false
theorem npW_ok {w : World} {d : Nat} {p : W9} (h : p.lt) : (npW d p).Ok Try.prog w := neP_ok h.1 h.2 h.1 h.2 (by simp)
def lbHead (p w : W9) (s b : ByteArray) (e f : Nat) : List Rec :=
  [pc 33 [wv p] (.tuple #[SV b, I (e : Nat)]), pc 34 [wv p] (.tuple #[SV b, I (e : Nat)]), pc 35 [SV s] (.tuple #[wv w, I (f : Nat)]), pc 36 [SV s] (.tuple #[wv w, I (f : Nat)]), neT 39 b b false, rn 43 (nqX e e) (.bool false), npW 48 w, rn 53 (nqX f f) (.bool false)]
def lbE (p : W9) (b : ByteArray) (e : Nat) : Bool → List Rec
  | true => [rn 56 (eqX e) (.bool true), pc 35 [SV b] (.tuple #[wv p, I 0]), npW 67 p]
  | false => [rn 56 (eqX e) (.bool false)]
def lbF (w : W9) (s : ByteArray) (f : Nat) : Bool → List Rec
  | true => [rn 70 (eqX f) (.bool true), pc 33 [wv w] (.tuple #[SV s, I 0]), neT 81 s s false]
  | false => [rn 70 (eqX f) (.bool false)]
theorem law10_raw (p w : W9) (s b : ByteArray) (e f : Nat) (γ : Nat → Nat) : ∀ q r : Bool,
    outL Try.prog Try.f10.results.toList [] (exec Try.prog (Fx Try.f10) ⟨Ex.start Try.f10.ntmps [(wv p, .no), (SV s, .no)] [], (List.range 8).map γ, lbHead p w s b e f ++ (lbE p b e q ++ (lbF w s f r ++ [pc 23 [] (.bool true)])), []⟩) =
      outR Try.prog Try.f10.results.toList [] (.bool true) (exec Try.prog (Fx Try.f10) ⟨Ex.start Try.f10.ntmps [(wv p, .no), (SV s, .no)] [], (List.range 8).map γ, lbHead p w s b e f ++ (lbE p b e q ++ (lbF w s f r ++ [pc 23 [] (.bool true)])), []⟩)
  | true, true => by kernel_rfl
  | true, false => by kernel_rfl
  | false, true => by kernel_rfl
  | false, false => by kernel_rfl

theorem str9 : Try.prog.underlying 9 = some .string := by kernel_rfl
theorem neT_same {w : World} {d : Nat} {b : ByteArray} : (neT d b b false).Ok Try.prog w := neT_ok ⟨fun h => (by cases h), fun h => absurd rfl h⟩
theorem W9.lt_of {p : W9} (h : isPt p.x p.y p.inf = true) : p.lt := ⟨ltR (valid_lt h).1, ltR (valid_lt h).2⟩
theorem decW_lt (s : ByteArray) : (decW s).1.lt := by
  have hz : (0 : Nat) < R := by decide
  by_cases h : (decW s).2 = 0
  · exact W9.lt_of (dec_enc h).1
  · revert h
    unfold decW
    split
    · exact fun _ => ⟨hz, hz⟩
    · split
      · split
        · exact fun _ => ⟨hz, hz⟩
        · exact fun _ => ⟨hz, hz⟩
      · split
        · exact fun _ => ⟨hz, hz⟩
        · split
          · exact fun _ => ⟨hz, hz⟩
          · split
            · exact fun _ => ⟨hz, hz⟩
            · exact fun h => absurd rfl h
theorem law10_of {p : W9} (hp : p.lt) (s b : ByteArray) (e : Nat) (h33 : Pure 33 [wv p] (.tuple #[SV b, I (e : Nat)])) (h34 : Pure 34 [wv p] (.tuple #[SV b, I (e : Nat)])) (hd : e = 0 → decW b = (p, 0)) : Pure 10 [wv p, SV s] (.bool true) := by
  have h35 := f35_ok s
  have h36 := f36_ok s
  have hl := decW_lt s
  have hde := dec_enc (s := s)
  generalize hw : decW s = w at *
  obtain ⟨w, f⟩ := w
  have hE : ∀ w0 : World, RecsOk w0 (lbE p b e (decide (e = 0))) := fun w0 => by
    by_cases h : e = 0
    · rw [decide_eq_true h]
      have h35' := f35_ok b
      rw [hd h] at h35'
      exact ⟨rn_ok (by rw [h]; rfl), pc_ok h35', npW_ok hp, trivial⟩
    · rw [decide_eq_false h]
      exact ⟨rn_ok (eqX_false h), trivial⟩
  have hF : ∀ w0 : World, RecsOk w0 (lbF w s f (decide (f = 0))) := fun w0 => by
    by_cases h : f = 0
    · rw [decide_eq_true h]
      obtain ⟨h1, h2⟩ := hde h
      have h33' := f33_yes h1
      rw [h2] at h33'
      exact ⟨rn_ok (by rw [h]; rfl), pc_ok h33', neT_same, trivial⟩
    · rw [decide_eq_false h]
      exact ⟨rn_ok (eqX_false h), trivial⟩
  have hH : ∀ w0 : World, RecsOk w0 (lbHead p w s b e f) := fun w0 => ⟨pc_ok h33, pc_ok h34, pc_ok h35, pc_ok h36, neT_same, rn_ok (nqX_false e), npW_ok hl, rn_ok (nqX_false f), trivial⟩
  exact pure_of Try.func10 rfl 8 [wv p, SV s] (lbHead p w s b e f ++ (lbE p b e (decide (e = 0)) ++ (lbF w s f (decide (f = 0)) ++ [pc 23 [] (.bool true)]))) _
    (fun w0 => (hH w0).append ((hE w0).append ((hF w0).append (m := [pc 23 [] (.bool true)]) ⟨pc_ok f23_ok, trivial⟩))) (fun γ => law10_raw p w s b e f γ _ _)
theorem law10_ok {x y : Nat} {inf : Bool} (s : ByteArray) (hx : x < R) (hy : y < R) : Pure 10 [PV x y inf, SV s] (.bool true) := by
  by_cases hp : isPt x y inf = true
  · exact law10_of (p := ⟨x, y, inf⟩) ⟨hx, hy⟩ s (encB ⟨x, y, inf⟩) 0 (f33_yes hp) (f34_yes hp) (fun _ => enc_dec hp)
  · have hp' : isPt x y inf = false := by simpa using hp
    exact law10_of (p := ⟨x, y, inf⟩) ⟨hx, hy⟩ s ⟨#[]⟩ 30 (f33_no (p := ⟨x, y, inf⟩) ⟨hx, hy⟩ hp') (f34_no (p := ⟨x, y, inf⟩) ⟨hx, hy⟩ hp') (fun h => by cases h)

end Go.Proofs.Ytildcmggcbdhpaa
