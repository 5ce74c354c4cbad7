/- The law CurveMany, of slices as they come in. No conditions. -/
import Derived.Test.YtildcmggcbdhpaaOpenS
import Derived.Test.YtildcmggcbdhpaaRefI
namespace Go.Proofs.Ytildcmggcbdhpaa
open Go.Ex Go.RowKit Lim
set_option maxRecDepth 100000

theorem law5_zero {ka pa : Option Addr} {kc pc' : Nat} : Pure 5 [.slice ka 0 kc, .slice pa 0 pc'] (.bool true) := fun w =>
  law5_of (need := []) rfl (by decide) (by decide) (e := 0) (x := 0) (y := 0) (by decide) (by decide) [] rfl (f24_zero.at _) (f25_zero.at _) (fun γ => by kernel_rfl) w (fun e he => by cases he)

theorem law5_ne {ka pa : Option Addr} {n m kc pc' : Nat} (h : n ≠ m ∨ 64 < n) : Pure 5 [.slice ka n kc, .slice pa m pc'] (.bool true) := by
  by_cases h1 : 70 < n ∨ 70 < m
  · exact law5_big h1
  · exact law5_len (by omega) (by omega) h

theorem zip_get {α β : Type} : ∀ (l : List α) (m : List β) (i : Nat) (q : α × β), (l.zip m)[i]? = some q → l[i]? = some q.1 ∧ m[i]? = some q.2
  | [], _, i, q, h => by simp at h
  | _ :: _, [], i, q, h => by simp at h
  | a :: l, b :: m, 0, q, h => by
    simp only [List.zip_cons_cons, List.getElem?_cons_zero, Option.some.injEq] at h
    subst h
    exact ⟨rfl, rfl⟩
  | a :: l, b :: m, i + 1, q, h => by
    simp only [List.zip_cons_cons, List.getElem?_cons_succ] at h ⊢
    exact zip_get l m i q h

/-- numbers and points, as they come in: what both sums are told -/
theorem SmH.zip {a : SmA} {ks : List Nat} {ps : List W9} {ko po : Nat} (hl : ks.length = ps.length) (hn : ks.length ≤ 64) (hk : ∀ k ∈ ks, k < R) (hp : ∀ p ∈ ps, p.lt)
    (kc : ∀ (i : Nat) (k : Nat), ks[i]? = some k → ∀ (j : Nat) (v : Value), (nl k)[j]? = some v → a.kc[ko + i * 4 + j]? = some v)
    (pc : ∀ (i : Nat) (p : W9), ps[i]? = some p → ∀ (j : Nat) (v : Value), (W9.l p)[j]? = some v → a.pc[po + i * 9 + j]? = some v) :
    SmH a (ks.zip ps) (some ⟨a.kg, ko, none⟩) ko (some ⟨a.pg, po, none⟩) po where
  k := fun _ => rfl
  p := fun _ => rfl
  kc := fun i q hq j v hv => kc i q.1 (zip_get ks ps i q hq).1 j v hv
  pc := fun i q hq j v hv => pc i q.2 (zip_get ks ps i q hq).2 j v hv
  lt := fun q hq => by
    obtain ⟨i, hi⟩ := List.getElem?_of_mem hq
    obtain ⟨h1, h2⟩ := zip_get ks ps i q hi
    exact ⟨hk _ (List.mem_of_getElem? h1), hp _ (List.mem_of_getElem? h2)⟩
  n := by rw [List.length_zip]; omega

def NumsIn (W : World) (v : Value) : Prop := (∃ a cap, v = .slice a 0 cap) ∨ ∃ (g off cap : Nat) (kc : List Value) (kt : TypeId) (l : List Nat), 0 < l.length ∧ v = SL g off l.length cap ∧ (xE g kc kt).holds W ∧ (∀ a ∈ l, a < R) ∧
      ∀ (i : Nat) (a : Nat), l[i]? = some a → ∀ (j : Nat) (v : Value), (nl a)[j]? = some v → kc[off + i * 4 + j]? = some v
def PtsIn (W : World) (v : Value) : Prop := (∃ a cap, v = .slice a 0 cap) ∨ ∃ (g off cap : Nat) (kc : List Value) (kt : TypeId) (l : List W9), 0 < l.length ∧ v = SL g off l.length cap ∧ (xE g kc kt).holds W ∧ (∀ a ∈ l, a.lt) ∧
      ∀ (i : Nat) (a : W9), l[i]? = some a → ∀ (j : Nat) (v : Value), (W9.l a)[j]? = some v → kc[off + i * 9 + j]? = some v

theorem law5_calls {W : World} {v0 v1 : Value} (h0 : NumsIn W v0) (h1 : PtsIn W v1) : Calls Try.prog 5 #[v0, v1] W fun e w' => e = .returned (.bool true) ∧ Below W.heap.size W w' := by
  rcases h0 with ⟨a, cap, rfl⟩ | ⟨kg, ko, kcap, kc, kt, ks, hk0, rfl, hk, hkR, hkc⟩ <;> rcases h1 with ⟨b, cap', rfl⟩ | ⟨pg, po, pcap, pc, pt, ps, hp0, rfl, hp, hpR, hpc⟩
  · exact law5_zero W
  · exact law5_ne (.inl (by omega)) W
  · exact law5_ne (.inl (by omega)) W
  · by_cases hl : ks.length = ps.length
    · by_cases hn : ks.length ≤ 64
      · have H := SmH.zip (a := ⟨kg, kc, kt, pg, pc, pt⟩) (ko := ko) (po := po) hl hn hkR hpR hkc hpc
        have h := law5_eq (kc := kcap) (pc' := pcap) H W
        have e : (ks.zip ps).length = ks.length := by rw [List.length_zip]; omega
        rw [e] at h
        have h' := h (fun e he => by
          simp only [List.mem_cons, List.not_mem_nil, or_false] at he
          rcases he with rfl | rfl
          · exact hk
          · exact hp)
        rw [show SL pg po ps.length pcap = SL pg po ks.length pcap by rw [hl]]
        exact h'
      · exact law5_ne (.inr (by omega)) W
    · exact law5_ne (.inl hl) W

end Go.Proofs.Ytildcmggcbdhpaa
