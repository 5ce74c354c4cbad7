/- P and Q are primes: by trial division and Pocklington's test. No conditions. -/
import Derived.Test.YtildcmggcbdhpaaNum
namespace Ec

theorem pr_107590001 : Pr 107590001 := small_prime (f := 10372) (by decide +kernel) (by decide +kernel) (by decide +kernel)
theorem pr_7240687 : Pr 7240687 := small_prime (f := 2690) (by decide +kernel) (by decide +kernel) (by decide +kernel)
theorem pr_96557 : Pr 96557 := small_prime (f := 310) (by decide +kernel) (by decide +kernel) (by decide +kernel)
theorem pr_255515944373312847190720520512484175977 : Pr 255515944373312847190720520512484175977 := by
  refine pock (F := 107590001 * 7240687 * 96557) (by decide +kernel) (by decide +kernel) fun d hd hdn => ?_
  have h0 : 107590001 ∣ d - 1 := pock_use (a := 2) (by decide +kernel) (by decide +kernel) pr_107590001 (by decide +kernel) hd hdn
  have h1 : 7240687 ∣ d - 1 := pock_use (a := 2) (by decide +kernel) (by decide +kernel) pr_7240687 (by decide +kernel) hd hdn
  have h2 : 96557 ∣ d - 1 := pock_use (a := 2) (by decide +kernel) (by decide +kernel) pr_96557 (by decide +kernel) hd hdn
  have g1 : 107590001 * 7240687 ∣ d - 1 := Nat.Coprime.mul_dvd_of_dvd_of_dvd (by decide +kernel) h0 h1
  have g2 : 107590001 * 7240687 * 96557 ∣ d - 1 := Nat.Coprime.mul_dvd_of_dvd_of_dvd (by decide +kernel) g1 h2
  exact g2

theorem pr_205115282021455665897114700593932402728804164701536103180137503955397371 : Pr 205115282021455665897114700593932402728804164701536103180137503955397371 := by
  refine pock (F := 255515944373312847190720520512484175977) (by decide +kernel) (by decide +kernel) fun d hd hdn => ?_
  have h0 : 255515944373312847190720520512484175977 ∣ d - 1 := pock_use (a := 2) (by decide +kernel) (by decide +kernel) pr_255515944373312847190720520512484175977 (by decide +kernel) hd hdn
  exact h0

theorem pr_P : Pr 115792089237316195423570985008687907853269984665640564039457584007908834671663 := by
  refine pock (F := 205115282021455665897114700593932402728804164701536103180137503955397371) (by decide +kernel) (by decide +kernel) fun d hd hdn => ?_
  have h0 : 205115282021455665897114700593932402728804164701536103180137503955397371 ∣ d - 1 := pock_use (a := 2) (by decide +kernel) (by decide +kernel) pr_205115282021455665897114700593932402728804164701536103180137503955397371 (by decide +kernel) hd hdn
  exact h0

theorem pr_4681609 : Pr 4681609 := small_prime (f := 2163) (by decide +kernel) (by decide +kernel) (by decide +kernel)
theorem pr_85831 : Pr 85831 := small_prime (f := 292) (by decide +kernel) (by decide +kernel) (by decide +kernel)
theorem pr_44706919 : Pr 44706919 := small_prime (f := 6686) (by decide +kernel) (by decide +kernel) (by decide +kernel)
theorem pr_120233 : Pr 120233 := small_prime (f := 346) (by decide +kernel) (by decide +kernel) (by decide +kernel)
theorem pr_631 : Pr 631 := small_prime (f := 25) (by decide +kernel) (by decide +kernel) (by decide +kernel)
theorem pr_107361793816595537 : Pr 107361793816595537 := by
  refine pock (F := 4681609 * 85831) (by decide +kernel) (by decide +kernel) fun d hd hdn => ?_
  have h0 : 4681609 ∣ d - 1 := pock_use (a := 2) (by decide +kernel) (by decide +kernel) pr_4681609 (by decide +kernel) hd hdn
  have h1 : 85831 ∣ d - 1 := pock_use (a := 2) (by decide +kernel) (by decide +kernel) pr_85831 (by decide +kernel) hd hdn
  have g1 : 4681609 * 85831 ∣ d - 1 := Nat.Coprime.mul_dvd_of_dvd_of_dvd (by decide +kernel) h0 h1
  exact g1

theorem pr_174723607534414371449 : Pr 174723607534414371449 := by
  refine pock (F := 44706919 * 120233) (by decide +kernel) (by decide +kernel) fun d hd hdn => ?_
  have h0 : 44706919 ∣ d - 1 := pock_use (a := 2) (by decide +kernel) (by decide +kernel) pr_44706919 (by decide +kernel) hd hdn
  have h1 : 120233 ∣ d - 1 := pock_use (a := 2) (by decide +kernel) (by decide +kernel) pr_120233 (by decide +kernel) hd hdn
  have g1 : 44706919 * 120233 ∣ d - 1 := Nat.Coprime.mul_dvd_of_dvd_of_dvd (by decide +kernel) h0 h1
  exact g1

theorem pr_Q : Pr 115792089237316195423570985008687907852837564279074904382605163141518161494337 := by
  refine pock (F := 107361793816595537 * 174723607534414371449 * 631) (by decide +kernel) (by decide +kernel) fun d hd hdn => ?_
  have h0 : 107361793816595537 ∣ d - 1 := pock_use (a := 2) (by decide +kernel) (by decide +kernel) pr_107361793816595537 (by decide +kernel) hd hdn
  have h1 : 174723607534414371449 ∣ d - 1 := pock_use (a := 2) (by decide +kernel) (by decide +kernel) pr_174723607534414371449 (by decide +kernel) hd hdn
  have h2 : 631 ∣ d - 1 := pock_use (a := 2) (by decide +kernel) (by decide +kernel) pr_631 (by decide +kernel) hd hdn
  have g1 : 107361793816595537 * 174723607534414371449 ∣ d - 1 := Nat.Coprime.mul_dvd_of_dvd_of_dvd (by decide +kernel) h0 h1
  have g2 : 107361793816595537 * 174723607534414371449 * 631 ∣ d - 1 := Nat.Coprime.mul_dvd_of_dvd_of_dvd (by decide +kernel) g1 h2
  exact g2


end Ec
