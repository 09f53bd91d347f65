/- Proved: dockyardlaw10.LeaseApart returns true: for every start and every two times, two leases given one behind the other are never held by one token; no condition. -/
import Derived.Test.YtciekdcbjfpfoaaPLeaseApartx2
namespace Go.Proofs.Ytciekdcbjfpfoaa.Pure
open Go.RowKit Go.Proofs.Ytciekdcbjfpfoaa.PLeaseApart Go.Proofs.YtciekdcbjfpfoaaW.PrintWords Go.Proofs.YtciekdcbjfpfoaaW.PrintLast

theorem apart_bounds {x : Int} (h : (Lit.int .u64 x).wf = true) : 0 ≤ x ∧ x < 18446744073709551616 := by
  simp [Lit.wf, IntKind.min, IntKind.max, IntKind.bits, IntKind.signed] at h
  omega

theorem apart_next (o : Int) (h : 1 ≤ o) : lease_Office_Next.f o = some o := by
  unfold lease_Office_Next.f
  rw [if_neg (by simp; omega)]

theorem apart_wrap (x : Int) (h0 : 0 ≤ x) (h1 : x < 18446744073709551616) : IntKind.u64.wrap x = x := by
  rw [IntKind.wrap_u64]; omega

theorem apart_grant_no (k : Nat) (o now : Int) (h : 1 ≤ o) (hn : o = 18446744073709551615 ∨ 18446744073709551607 < now) :
    lease_Office_Grant.f (k + 1) o now = some (o, 0, 0, 0, 101) := by
  unfold lease_Office_Grant.f lease_late.f
  rw [apart_next o h]
  simp only [Option.bind_some]
  by_cases h1 : o = 18446744073709551615
  · rw [if_pos h1]; simp only [lease_Office_Grant.j0, if_true]
  · rw [if_neg h1]
    have h2 : (18446744073709551607 : Int) < now := by rcases hn with hn | hn; exact absurd hn h1; exact hn
    have h3 : decide (now > 18446744073709551607) = true := by simpa using h2
    rw [h3]; simp only [lease_Office_Grant.j0, if_true]

theorem apart_grant_yes (k : Nat) (o now : Int) (h : 1 ≤ o) (hm : o < 18446744073709551615) (h0 : 0 ≤ now) (hn : now ≤ 18446744073709551607) :
    lease_Office_Grant.f (k + 1) o now = some (o + 1, 2, o, now + 8, 0) := by
  unfold lease_Office_Grant.f lease_late.f
  rw [apart_next o h]
  simp only [Option.bind_some]
  rw [if_neg (by omega)]
  have h3 : decide (now > 18446744073709551607) = false := by simpa using hn
  rw [h3]
  simp only [lease_Office_Grant.j0]
  rw [if_neg (by simp), apart_next o h]
  simp only [Option.bind_some]
  rw [apart_wrap (o + 1) (by omega) (by omega), apart_wrap (now + 8) (by omega) (by omega)]

theorem apart_alive (k : Nat) : dockyardlaw10_alive.f (k + 1) = some true := by
  unfold dockyardlaw10_alive.f lease_New.f
  simp only [Option.bind_some]
  rw [show mx 5 1 = 5 from by unfold mx; omega, apart_grant_yes k 5 3 (by omega) (by omega) (by omega) (by omega)]
  simp only [Option.bind_some, if_true]
  rw [apart_next _ (by omega)]
  simp only [Option.bind_some]
  rw [if_pos (by omega), if_pos (by omega)]
  unfold lease_Holds.f
  decide

theorem apart_holds (t u token now : Int) : lease_Holds.f 2 t u token now = some (decide (token ≠ 0 ∧ t = token ∧ now < u)) := by
  unfold lease_Holds.f
  rw [if_pos rfl]
  by_cases h1 : token = 0
  · rw [if_pos h1]; simp [h1]
  · rw [if_neg h1]
    by_cases h2 : t = token
    · rw [if_pos h2]; simp [h1, h2]
    · rw [if_neg h2]; simp [h2]

theorem apart_both (k : Nat) (o now later : Int) (ho : 1 ≤ o) (hm : o + 1 < 18446744073709551615) (h0 : 0 ≤ now) (h1 : now ≤ 18446744073709551607) (h2 : 0 ≤ later) (h3 : later ≤ 18446744073709551607) :
    dockyardlaw10_LeaseApart.f (k + 1) o now later = some true := by
  unfold dockyardlaw10_LeaseApart.f lease_New.f
  simp only [Option.bind_some]
  rw [show mx o 1 = o from by unfold mx; omega, apart_grant_yes k o now ho (by omega) h0 h1]
  simp only [Option.bind_some, if_true]
  rw [apart_grant_yes k (o + 1) later (by omega) hm h2 h3]
  simp only [Option.bind_some, if_true]
  rw [apart_alive]
  simp only [Option.bind_some, if_true]
  rw [if_neg (by omega), apart_holds, decide_eq_false (by omega)]
  simp only [Option.bind_some]
  rw [if_neg (by simp), apart_holds, decide_eq_false (by omega)]
  simp only [Option.bind_some]
  rw [if_neg (by simp), apart_holds, decide_eq_true (by omega)]
  simp only [Option.bind_some, if_true]
  rw [apart_holds, decide_eq_true (by omega)]; rfl

theorem apart_max (k : Nat) (a now later : Int) : dockyardlaw10_LeaseApart.f k a now later = dockyardlaw10_LeaseApart.f k (mx a 1) now later := by
  unfold dockyardlaw10_LeaseApart.f lease_New.f
  rw [show mx (mx a 1) 1 = mx a 1 from by unfold mx; omega]

theorem LeaseApart : dockyardlaw10_LeaseApart.Pure := by
  intro a now later h0 h1 h2
  refine ⟨0 + 1, ?_⟩
  have b0 := apart_bounds h0
  have b1 := apart_bounds h1
  have b2 := apart_bounds h2
  rw [apart_max _ a now later]
  obtain ⟨o, ho, ho1, ho2⟩ : ∃ o, mx a 1 = o ∧ 1 ≤ o ∧ o < 18446744073709551616 := ⟨_, rfl, by unfold mx; omega, by unfold mx; omega⟩
  rw [ho]
  by_cases hf : o = 18446744073709551615 ∨ 18446744073709551607 < now
  · unfold dockyardlaw10_LeaseApart.f lease_New.f
    simp only [Option.bind_some]
    rw [show mx o 1 = o from by unfold mx; omega, apart_grant_no 0 o now ho1 hf]
    simp only [Option.bind_some]
    rw [if_neg (by omega), apart_alive]; rfl
  · by_cases hg : o + 1 = 18446744073709551615 ∨ 18446744073709551607 < later
    · unfold dockyardlaw10_LeaseApart.f lease_New.f
      simp only [Option.bind_some]
      rw [show mx o 1 = o from by unfold mx; omega, apart_grant_yes 0 o now ho1 (by omega) (by omega) (by omega)]
      simp only [Option.bind_some, if_true]
      rw [apart_grant_no 0 (o + 1) later (by omega) hg]
      simp only [Option.bind_some]
      rw [if_neg (by omega), apart_alive]; rfl
    · exact apart_both 0 o now later ho1 (by omega) (by omega) (by omega) (by omega) (by omega)

end Go.Proofs.Ytciekdcbjfpfoaa.Pure
