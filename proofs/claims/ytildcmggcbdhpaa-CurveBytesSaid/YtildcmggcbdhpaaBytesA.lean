/- Numbers as bytes: package limb and the document's answer. No conditions but that numbers are below R. -/
import Derived.Test.YtildcmggcbdhpaaCurveG
import Derived.Laws.BytesString
namespace Go.Proofs.Ytildcmggcbdhpaa
open Go.Ex Go.RowKit Lim
set_option maxRecDepth 100000
set_option exponentiation.threshold 600

abbrev Uy (n : Nat) : Value := .int .u8 (n : Int)
/-- byte i, from the lowest on -/
def by_ (a i : Nat) : Nat := a / 256 ^ i % 256
theorem by_lt (a i : Nat) : by_ a i < 256 := Nat.mod_lt _ (by decide)
theorem byte_d (a : Nat) {d j : Nat} (hj : j < 8) : a / B ^ d % B / 2 ^ (8 * j) % 256 = by_ a (8 * d + j) := by
  have e : a / B ^ d / 2 ^ (8 * j) = a / 256 ^ (8 * d + j) := by
    rw [Nat.div_div_eq_div_mul, show B = 256 ^ 8 from by decide, show (2 : Nat) ^ (8 * j) = 256 ^ j by rw [Nat.pow_mul], ← Nat.pow_mul, ← Nat.pow_add]
  unfold by_
  rw [← e]
  generalize a / B ^ d = x
  have hB : B = 18446744073709551616 := rfl
  match j, hj with
  | 0, _ | 1, _ | 2, _ | 3, _ | 4, _ | 5, _ | 6, _ | 7, _ =>
    simp only [Nat.reduceMul, Nat.reducePow, hB]
    omega

def strV (l : List Nat) : Value := .string ⟨(l.map UInt8.ofNat).toArray⟩
/-- the bytes, the highest first -/
def be (a : Nat) : List Nat := (List.range 32).map fun i => by_ a (31 - i)
def u8s (l : List Nat) : List Value := l.map fun n => Uy n

def shkS (x n : Nat) : Sem Value := Op.shift .shr .u64 (x : Int) .i64 (n : Int)
def shkF (d x n : Nat) : Rec := opF d (shkS x n) (U (x / 2 ^ n))
theorem shkF_ok {w0 : World} {d x n : Nat} (hn : n ≤ 64) : (shkF d x n).Ok Try.prog w0 := opF_ok fun w => by
  have e : (2 : Int) ^ n = ((2 ^ n : Nat) : Int) := by rw [Int.natCast_pow]; rfl
  unfold shkS
  rw [shift_shr _ _ _ _ (by omega) (by show (n : Int) ≤ (64 : Nat); omega), Int.toNat_natCast, e, ← Int.natCast_ediv]
  rfl
/-- a word's lowest byte -/
def cvF (d y : Nat) : Rec := opF d (convert 22 5 (U y)) (Uy (y % 256))
theorem cvF_ok {w0 : World} {d y : Nat} : (cvF d y).Ok Try.prog w0 := opF_ok fun w => by
  have h : (convert 22 5 (U y)).run Try.prog w = .ok (.int .u8 (IntKind.u8.wrap (y : Int))) w := by kernel_rfl
  rw [h]
  have e : IntKind.u8.wrap (y : Int) = ((y % 256 : Nat) : Int) := by
    show (y : Int) % 2 ^ 8 = _
    omega
  rw [e]

/-- bytes as a text -/
theorem foldl_push : ∀ (l : List Nat) (s : ByteArray), (l.map Int.ofNat).foldl (fun r n => r.push (UInt8.ofNat n.toNat)) s = ⟨s.data ++ (l.map UInt8.ofNat).toArray⟩
  | [], s => by simp
  | n :: l, s => by
    rw [List.map_cons, List.foldl_cons, foldl_push l]
    show ByteArray.mk (s.data.push _ ++ _) = _
    congr 1
    apply Array.ext'
    simp
def tsF (d j : Nat) (e : (Nat → Nat) → Ent) (l : List Nat) (cap : Nat) : Rec :=
  .fact d (fun σ => [(j, e σ)]) (fun σ => do pure (.value (← convert 123 9 (.slice (some ⟨σ j, 0, none⟩) l.length cap)))) (strV l)
theorem run_ts {e : Ent} {w : World} (h : e.holds w) {l : List Nat} {cap : Nat} (hc : ∀ (k : Nat) (v : Value), (u8s l)[k]? = some v → e.cs[k]? = some v) : (convert 123 9 (.slice (some ⟨e.g, 0, none⟩) l.length cap)).run Try.prog w = .ok (strV l) w := by
  rw [run_convert_bytes_string w 123 9 5 _ _ _ (by kernel_rfl) (by kernel_rfl) (by kernel_rfl), run_bytesToString w _ _ _ (l.map Int.ofNat) ?_, foldl_push]
  · unfold strV
    congr 3
    show (#[] ++ _ : Array UInt8) = _
    simp
  · have h1 := run_loadCells_list (P := Try.prog) w ⟨e.g, 0, none⟩ (u8s l) (fun k v hk => by
      rw [Addr.add_mid, Nat.zero_add]
      exact (cell_of_holds h ⟨e.g, k, none⟩ rfl rfl).trans (hc k v hk))
    have e1 : (u8s l).length = l.length := by unfold u8s; rw [List.length_map]
    rw [e1] at h1
    rw [h1]
    congr 1
    unfold u8s
    rw [List.map_map]
    rfl

def byRecs (a i : Nat) : List Rec := [shkF 17 (dg a (i / 8)) (8 * (i % 8)), opF 18 (convert 22 5 (U (dg a (i / 8) / 2 ^ (8 * (i % 8))))) (Uy (by_ a i))]
theorem byRecs_ok (a : Nat) {i : Nat} (hi : i < 32) (w0 : World) : RecsOk w0 (byRecs a i) := by
  refine ⟨shkF_ok (by omega), ?_, trivial⟩
  have h := cvF_ok (w0 := w0) (d := 18) (y := dg a (i / 8) / 2 ^ (8 * (i % 8)))
  unfold cvF at h
  rw [dg_eq a (i / 8) (by omega), byte_d a (by omega), show 8 * (i / 8) + i % 8 = i by omega, ← dg_eq a (i / 8) (by omega)] at h
  exact h
theorem flat_ok {w0 : World} {α : Type} (f : α → List Rec) : ∀ (l : List α), (∀ a ∈ l, RecsOk w0 (f a)) → RecsOk w0 (l.flatMap f)
  | [], _ => trivial
  | a :: l, h => (h a (by simp)).append (flat_ok f l (fun b hb => h b (List.mem_cons_of_mem _ hb)))

def arrE (g : Nat) (l : List Nat) : Ent := ⟨g, u8s l, [], 157, true⟩
def f82Recs (a : Nat) : List Rec := (List.range 32).flatMap (byRecs a) ++ [tsF 22 1 (fun σ => arrE (σ 1) (be a)) (be a) 32]
theorem f82_ok (a : Nat) : Pure 82 [NV a] (strV (be a)) :=
  pure_of Try.func82 rfl 8 [NV a] (f82Recs a) _ (fun w0 => (flat_ok (byRecs a) (List.range 32) (fun i hi => byRecs_ok a (by simpa using hi) w0)).append ⟨fun σ w _ hn => run_val (run_ts (e := arrE (σ 1) (be a)) (hn _ List.mem_cons_self) (fun k v hk => hk)), trivial⟩) (fun γ => by kernel_rfl)

end Go.Proofs.Ytildcmggcbdhpaa
