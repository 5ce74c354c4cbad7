/- The document's bytes of a number. No conditions but that numbers are below R. -/
import Derived.Test.YtildcmggcbdhpaaBytesA
import Derived.Test.YtildcmggcbdhpaaRef
namespace Go.Proofs.Ytildcmggcbdhpaa
open Go.Ex Go.RowKit Lim
set_option maxRecDepth 100000
set_option exponentiation.threshold 600

/-- append to a row of the caller's own, by its capacity -/
def apC (d : Nat) (t ty e ex : TypeId) (z : Array Value) (j jx n m : Nat) (xs news : List Value) : Rec :=
  .eff (some d) [] (fun σ => [(j, ⟨σ 0, xs ++ zs z (σ 10000 - n), [], e, true⟩), (jx, ⟨σ 1, news, [], ex, true⟩)])
    (fun σ => apS t ty (.slice (some ⟨σ 0, 0, none⟩) n (σ 10000 - n + n)) (.slice (some ⟨σ 1, 0, none⟩) m m)) 2
    (fun _ δ => .slice (some ⟨δ 0, 0, none⟩) (n + m) (δ 1 + (n + m))) (fun _ δ => [(j, ⟨δ 0, xs ++ (news ++ zs z (δ 1)), [], e, true⟩)]) (fun _ _ => []) (.at_ j)
/-- .. to nothing -/
def apN (d q : Nat) (t ty e ex : TypeId) (z : Array Value) (jx m : Nat) (news : List Value) : Rec :=
  .eff (some d) [] (fun σ => [(jx, ⟨σ q, news, [], ex, true⟩)])
    (fun σ => apS t ty (.slice none 0 0) (.slice (some ⟨σ q, 0, none⟩) m m)) 2
    (fun _ δ => .slice (some ⟨δ 0, 0, none⟩) m (δ 1 + m)) (fun _ δ => [(jx, ⟨δ 0, news ++ zs z (δ 1), [], e, true⟩)]) (fun _ _ => []) (.at_ jx)

section
variable {P : Program} {w0 : World}
theorem Eff.imp {s : Sem Next} {w : World} {Φ Ψ : Value → World → Prop} (h : Eff P s w Φ) (hi : ∀ v w', Φ v w' → Ψ v w') : Eff P s w Ψ := by
  rcases h with ⟨v, w', h1, h2⟩ | ⟨w', h1, h2⟩ | ⟨f, args, h1, h2⟩
  · exact .inl ⟨v, w', h1, hi _ _ h2⟩
  · exact .inr (.inl ⟨w', h1, hi _ _ h2⟩)
  · exact .inr (.inr ⟨f, args, h1, h2.mono fun e w' ⟨v, h3, h4⟩ => ⟨v, h3, hi _ _ h4⟩⟩)
theorem apN_ok {d q : Nat} {t ty e ex : TypeId} {size bytes : Nat} {z : Array Value} (he : Elt P t e size bytes z) {jx m : Nat} {news : List Value} (hm : 0 < m)
    (hn : news.length = m * size) (hsm : m ≤ 1048576) (hb : m * bytes ≤ 140737488355328) : (apN d q t ty e ex z jx m news).Ok P w0 := by
  intro γ w h1 h2 h3
  have h := ap0_ok (w0 := w0) (d := d) (q := q) (ty := ty) (ex := ex) (jx := jx) he hm hn hsm hb γ w h1 h2 h3
  refine Eff.imp h ?_
  rintro v w' ⟨δ, hδ, rfl, hd⟩
  exact ⟨δ, hδ, by show Value.slice _ _ _ = Value.slice _ _ _; rw [Nat.add_comm], hd⟩

theorem apC_ok {d : Nat} {t ty e ex : TypeId} {size bytes : Nat} {z : Array Value} (he : Elt P t e size bytes z) {j jx n m : Nat} {xs news : List Value} (hj : j ≠ jx)
    (hx : xs.length = n * size) (hn : news.length = m * size) (h1 : ∀ u ∈ news, u.oneCell' = true) (hsm : n + m ≤ 1048576) (hb : (n + m) * bytes ≤ 140737488355328) : (apC d t ty e ex z j jx n m xs news).Ok P w0 := by
  intro γ w hB h2 h3
  have h := apF_ok (w0 := w0) (d := d) (ty := ty) (ex := ex) (room := γ 10000 - n) he hj hx hn h1 hsm hb γ w hB h2 h3
  have h : Eff P (apS t ty (.slice (some ⟨γ 0, 0, none⟩) n (n + (γ 10000 - n))) (.slice (some ⟨γ 1, 0, none⟩) m m)) w _ := h
  rw [Nat.add_comm n] at h
  refine Eff.imp h ?_
  rintro v w' ⟨δ, hδ, rfl, hd⟩
  exact ⟨δ, hδ, by show Value.slice _ _ _ = Value.slice _ _ _; rw [Nat.add_comm (n + m)], hd⟩
end

/-- wardmoteref01.Bytes -/
def sh56 (d x : Nat) : Rec := opF d (Op.shift .shr .u64 (x : Int) .u64 56) (U (x / 2 ^ 56))
theorem sh56_ok {w0 : World} {d x : Nat} : (sh56 d x).Ok Try.prog w0 := opF_ok fun w => by
  rw [shift_shr _ _ _ _ (by decide) (by decide)]
  show Result.ok (Value.int .u64 ((x : Int) / 2 ^ (56 : Nat))) w = _
  congr 2
def sl8 (d x : Nat) : Rec := opF d (Op.shift .shl .u64 (x : Int) .u64 8) (U (x * 256 % B))
theorem sl8_ok {w0 : World} {d x : Nat} : (sl8 d x).Ok Try.prog w0 := opF_ok fun w => by
  rw [shift_shl _ _ _ _ (by decide) (by decide)]
  show Result.ok (Value.int .u64 (IntKind.u64.wrap ((x : Int) * 2 ^ (8 : Nat)))) w = _
  rw [wrapU]
  congr 2
def rx (l : Nat) : Nat → Nat
  | 0 => l
  | k + 1 => rx l k * 256 % B
theorem rx_top {l : Nat} (hl : l < B) {k : Nat} (hk : k < 8) : rx l k / 2 ^ 56 % 256 = l / 2 ^ (8 * (7 - k)) % 256 := by
  have hB : B = 18446744073709551616 := rfl
  rw [hB] at hl
  have e : ∀ k, rx l k = l * 256 ^ k % B := fun k => by
    induction k with
    | zero => rw [Nat.pow_zero, Nat.mul_one, hB, Nat.mod_eq_of_lt hl]; rfl
    | succ k ih => show rx l k * 256 % B = _; rw [ih, Nat.mod_mul_mod, Nat.pow_succ, Nat.mul_assoc]
  rw [e, hB]
  match k, hk with
  | 0, _ | 1, _ | 2, _ | 3, _ | 4, _ | 5, _ | 6, _ | 7, _ =>
    simp only [Nat.reduceMul, Nat.reducePow, Nat.reduceSub]
    omega
def z1 : Array Value := #[.int .u8 0]
theorem elt123 : Elt Try.prog 123 5 1 1 z1 := ⟨by kernel_rfl, by kernel_rfl, rfl, by decide, by decide⟩
def rbRecs (a i k : Nat) : List Rec :=
  [sh56 20 (rx (dg a i) k), opF 21 (convert 22 5 (U (rx (dg a i) k / 2 ^ 56))) (Uy (by_ a (8 * i + (7 - k)))),
    if 8 * (3 - i) + k = 0 then apN 23 1 123 123 5 5 z1 1 1 [Uy (by_ a 31)] else apC 23 123 123 5 5 z1 1 (8 * (3 - i) + k + 1) (8 * (3 - i) + k) 1 (u8s ((be a).take (8 * (3 - i) + k))) [Uy (by_ a (8 * i + (7 - k)))],
    sl8 25 (rx (dg a i) k)]
theorem rbRecs_ok (a : Nat) {i k : Nat} (hi : i < 4) (hk : k < 8) (w0 : World) : RecsOk w0 (rbRecs a i k) := by
  refine ⟨sh56_ok, ?_, ?_, sl8_ok, trivial⟩
  · have h := cvF_ok (w0 := w0) (d := 21) (y := rx (dg a i) k / 2 ^ 56)
    unfold cvF at h
    rw [rx_top (dg_lt (by omega)) hk, dg_eq a i (by omega), byte_d a (show 7 - k < 8 by omega), ← dg_eq a i (by omega)] at h
    exact h
  · split
    · exact apN_ok elt123 (by decide) rfl (by decide) (by decide)
    · refine apC_ok elt123 (by omega) ?_ rfl (one_U rfl) (by omega) (by omega)
      unfold u8s
      rw [List.length_map, List.length_take, Nat.mul_one]
      unfold be
      rw [List.length_map, List.length_range]
      omega
/-- a row of the caller's own as a text -/
def tsC (d j : Nat) (l : List Nat) : Rec := .eff (some d) [] (fun σ => [(j, ⟨σ 0, u8s l ++ zs z1 (σ 10000 - l.length), [], 5, true⟩)])
    (fun σ => do pure (.value (← convert 123 9 (.slice (some ⟨σ 0, 0, none⟩) l.length (σ 10000 - l.length + l.length))))) 0 (fun _ _ => strV l) (fun _ _ => []) (fun _ _ => []) .no
theorem Done.same (w : World) (need : List (Nat × Ent)) : Done w w need [] [] := Done.of_below (Below.refl _ _) need
theorem tsC_ok {w0 : World} {d j : Nat} {l : List Nat} : (tsC d j l).Ok Try.prog w0 := by
  intro σ w _ hn _
  refine .inl ⟨strV l, w, ?_, fun _ => 0, fun _ _ => rfl, rfl, Done.same w _⟩
  refine run_val (run_ts (e := ⟨σ 0, u8s l ++ zs z1 (σ 10000 - l.length), [], 5, true⟩) (hn _ List.mem_cons_self) (fun k v hk => ?_))
  show (u8s l ++ zs z1 (σ 10000 - l.length))[k]? = some v
  rw [List.getElem?_append_left (lt_of_get hk)]
  exact hk
def f83Recs (a : Nat) : List Rec := ([3, 2, 1, 0].flatMap fun i => (List.range 8).flatMap (rbRecs a i)) ++ [tsC 27 1 (be a)]
theorem f83_raw (a : Nat) (γ : Nat → Nat) : outL Try.prog Try.f83.results.toList [] (exec Try.prog (Fx Try.f83) ⟨Ex.start Try.f83.ntmps [(NV a, .no)] [], (List.range 128).map γ, f83Recs a, []⟩) =
    outR Try.prog Try.f83.results.toList [] (strV (be a)) (exec Try.prog (Fx Try.f83) ⟨Ex.start Try.f83.ntmps [(NV a, .no)] [], (List.range 128).map γ, f83Recs a, []⟩) := by kernel_rfl
theorem f83_ok (a : Nat) : Pure 83 [NV a] (strV (be a)) :=
  pure_of Try.func83 rfl 128 [NV a] (f83Recs a) _ (fun w0 => (flat_ok _ [3, 2, 1, 0] (fun i hi => flat_ok _ (List.range 8) (fun k hk => rbRecs_ok a (by
    simp only [List.mem_cons, List.not_mem_nil, or_false] at hi
    omega) (by simpa using hk) w0))).append ⟨tsC_ok, trivial⟩) (fun γ => f83_raw a γ)

end Go.Proofs.Ytildcmggcbdhpaa
