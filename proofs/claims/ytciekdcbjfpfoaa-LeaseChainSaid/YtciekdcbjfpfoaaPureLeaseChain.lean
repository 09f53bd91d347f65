/- Proved: dockyardlaw10.LeaseChain returns true: for every start, time and list of waits, a lease renewed ahead of its end holds all the while by its own token; no condition. -/
import Derived.Test.YtciekdcbjfpfoaaPLeaseChainx3
import Derived.Test.YtciekdcbjfpfoaaWSized
namespace Go.Proofs.Ytciekdcbjfpfoaa.PrintWords
open Go.ChangeShapes Go.WideShapes
/-- The printed row names this lemma from inside 'Go.Proofs.Ytciekdcbjfpfoaa', where the words' namespace is 'Go.Proofs.YtciekdcbjfpfoaaW': the same lemma under the name by which the row finds it. -/
theorem sized_ints {H : Type} {enc : TypeId × Value → H} {P : Program} {W : World} {base : Nat} {spare : Nat → Bool} {held : Bool} {t e : TypeId} {k : IntKind} {a : Option Addr} {len cap : Nat} {d : DataW H} {ps : List MemPlace} {ts : List TypeId} {ds : List (DataW H)} {j : Nat}
    (hsz : (DataW.weightsEach P ts ds).all (· ≤ reachBytes) = true) (ht : ts[j]? = some t) (hd : ds[j]? = some d) (hu : P.underlying t = some (.slice e)) (he : P.underlying e = some (.int k)) (hc : P.cellsOf e = 1) {B : Nat} (hB : P.bytesOf e = B)
    (h : DataW.Trod enc P W base spare held t (.slice a len cap) d ps) : len * B ≤ 140737488351232 :=
  Go.Proofs.YtciekdcbjfpfoaaW.PrintWords.sized_ints hsz ht hd hu he hc hB h
end Go.Proofs.Ytciekdcbjfpfoaa.PrintWords
namespace Go.Proofs.Ytciekdcbjfpfoaa.Pure
open Go.RowKit Go.Proofs.Ytciekdcbjfpfoaa.PLeaseChain Go.Proofs.YtciekdcbjfpfoaaW.PrintWords Go.Proofs.YtciekdcbjfpfoaaW.PrintLast

theorem chain_bounds {x : Int} (h : (Lit.int .u64 x).wf = true) : 0 ≤ x ∧ x < 18446744073709551616 := by
  simp [Lit.wf, IntKind.min, IntKind.max, IntKind.bits, IntKind.signed] at h
  omega

theorem chain_next (o : Int) (h : 1 ≤ o) : lease_Office_Next.f o = some o := by
  unfold lease_Office_Next.f
  rw [if_neg (by simp; omega)]

theorem chain_wrap (x : Int) (h0 : 0 ≤ x) (h1 : x < 18446744073709551616) : IntKind.u64.wrap x = x := by
  rw [IntKind.wrap_u64]; omega

theorem chain_grant_no (k : Nat) (o now : Int) (h : 1 ≤ o) (hn : o = 18446744073709551615 ∨ 18446744073709551607 < now) :
    lease_Office_Grant.f (k + 1) o now = some (o, 0, 0, 0, 101) := by
  unfold lease_Office_Grant.f lease_late.f
  rw [chain_next o h]
  simp only [Option.bind_some]
  by_cases h1 : o = 18446744073709551615
  · rw [if_pos h1]; simp only [lease_Office_Grant.j0, if_true]
  · rw [if_neg h1]
    have h2 : (18446744073709551607 : Int) < now := by rcases hn with hn | hn; exact absurd hn h1; exact hn
    have h3 : decide (now > 18446744073709551607) = true := by simpa using h2
    rw [h3]; simp only [lease_Office_Grant.j0, if_true]

theorem chain_grant_yes (k : Nat) (o now : Int) (h : 1 ≤ o) (hm : o < 18446744073709551615) (h0 : 0 ≤ now) (hn : now ≤ 18446744073709551607) :
    lease_Office_Grant.f (k + 1) o now = some (o + 1, 2, o, now + 8, 0) := by
  unfold lease_Office_Grant.f lease_late.f
  rw [chain_next o h]
  simp only [Option.bind_some]
  rw [if_neg (by omega)]
  have h3 : decide (now > 18446744073709551607) = false := by simpa using hn
  rw [h3]
  simp only [lease_Office_Grant.j0]
  rw [if_neg (by simp), chain_next o h]
  simp only [Option.bind_some]
  rw [chain_wrap (o + 1) (by omega) (by omega), chain_wrap (now + 8) (by omega) (by omega)]

theorem chain_alive (k : Nat) : dockyardlaw10_alive.f (k + 1) = some true := by
  unfold dockyardlaw10_alive.f lease_New.f
  simp only [Option.bind_some]
  rw [show mx 5 1 = 5 from by unfold mx; omega, chain_grant_yes k 5 3 (by omega) (by omega) (by omega) (by omega)]
  simp only [Option.bind_some, if_true]
  rw [chain_next _ (by omega)]
  simp only [Option.bind_some]
  rw [if_pos (by omega), if_pos (by omega)]
  unfold lease_Holds.f
  decide

theorem chain_holds (t u token now : Int) : lease_Holds.f 2 t u token now = some (decide (token ≠ 0 ∧ t = token ∧ now < u)) := by
  unfold lease_Holds.f
  rw [if_pos rfl]
  by_cases h1 : token = 0
  · rw [if_pos h1]; simp [h1]
  · rw [if_neg h1]
    by_cases h2 : t = token
    · rw [if_pos h2]; simp [h1, h2]
    · rw [if_neg h2]; simp [h2]

theorem chain_late (now : Int) : lease_late.f now = some (decide (18446744073709551607 < now)) := rfl

theorem chain_renew_stale (t u token now : Int) (h : ¬ (token ≠ 0 ∧ t = token ∧ now < u)) : lease_Renew.f 2 t u token now = some (0, 0, 0, 100) := by
  unfold lease_Renew.f
  rw [chain_holds, decide_eq_false h]; rfl

theorem chain_renew_full (t u token now : Int) (h : token ≠ 0 ∧ t = token ∧ now < u) (hf : 18446744073709551607 < now) : lease_Renew.f 2 t u token now = some (0, 0, 0, 101) := by
  unfold lease_Renew.f
  rw [chain_holds, decide_eq_true h, chain_late, decide_eq_true hf]; rfl

theorem chain_renew_ok (t u token now : Int) (h : token ≠ 0 ∧ t = token ∧ now < u) (h0 : 0 ≤ now) (hf : now ≤ 18446744073709551607) : lease_Renew.f 2 t u token now = some (2, t, mx u (now + 8), 0) := by
  unfold lease_Renew.f
  rw [chain_holds, decide_eq_true h, chain_late, decide_eq_false (by omega)]
  simp only [Option.bind_some, if_true]
  rw [if_neg (by simp), chain_wrap (now + 8) (by omega) (by omega)]

theorem chain_loop (l : List Int) (hl : l.length * 8 ≤ 140737488351232) (token : Int) (ht : token ≠ 0) (d : Nat) :
    ∀ (k : Nat) (now i u : Int), 0 ≤ i → i ≤ (l.length : Int) → (l.length : Int) - i = d → d + 1 < k → 0 ≤ now → now < 18446744073709551616 →
    dockyardlaw10_LeaseChain.l0 k now token l (l.length : Int) i 2 token u = some true := by
  induction d with
  | zero =>
    intro k now i u h0 h1 hd hk hn0 hn1
    obtain ⟨k, rfl⟩ : ∃ m, k = m + 1 := ⟨k - 1, by omega⟩
    simp only [dockyardlaw10_LeaseChain.l0]
    obtain ⟨k, rfl⟩ : ∃ m, k = m + 1 := ⟨k - 1, by omega⟩
    rw [if_neg (by omega), chain_alive]; rfl
  | succ d ih =>
    intro k now i u h0 h1 hd hk hn0 hn1
    obtain ⟨k, rfl⟩ : ∃ m, k = m + 1 := ⟨k - 1, by omega⟩
    have hlt : i < (l.length : Int) := by omega
    have hwr : wrap64 (i + 1) = i + 1 := by unfold wrap64; omega
    simp only [dockyardlaw10_LeaseChain.l0]
    obtain ⟨k, rfl⟩ : ∃ m, k = m + 1 := ⟨k - 1, by omega⟩
    rw [if_pos hlt, if_pos h0, if_pos hlt]
    obtain ⟨x, hx, hx0, hx1⟩ : ∃ x, IntKind.u64.wrap (now + rd l i) = x ∧ 0 ≤ x ∧ x < 18446744073709551616 := ⟨_, rfl, by rw [IntKind.wrap_u64]; omega, by rw [IntKind.wrap_u64]; omega⟩
    rw [hx]
    by_cases hlow : x < now
    · rw [if_pos hlow, chain_alive]; rfl
    · rw [if_neg hlow]
      by_cases hu : u ≤ x
      · have hh : ¬ (token ≠ 0 ∧ token = token ∧ x < u) := by omega
        rw [chain_renew_stale _ _ _ _ hh]
        simp only [Option.bind_some]
        rw [if_pos hu, chain_alive]
        simp only [Option.bind_some, if_true]
        rw [chain_holds, decide_eq_false hh]; rfl
      · have hh : token ≠ 0 ∧ token = token ∧ x < u := by omega
        by_cases hg : 18446744073709551607 < x
        · rw [chain_renew_full _ _ _ _ hh hg]
          simp only [Option.bind_some]
          rw [if_neg (by omega), if_neg (by omega), chain_alive]
          rfl
        · rw [chain_renew_ok _ _ _ _ hh hx0 (by omega)]
          have hm : u ≤ mx u (x + 8) ∧ x + 8 ≤ mx u (x + 8) := by unfold mx; omega
          simp only [Option.bind_some, if_true]
          rw [if_neg (by omega), if_neg (by omega), chain_wrap (x + 8) (by omega) (by omega), if_neg (by omega), chain_holds, decide_eq_true (by omega)]
          simp only [Option.bind_some, if_true]
          rw [hwr]
          exact ih (k + 1) x (i + 1) _ (by omega) (by omega) (by omega) (by omega) hx0 hx1

theorem LeaseChain : dockyardlaw10_LeaseChain.Pure := by
  intro a now l h0 h1 _ hl _
  have b0 := chain_bounds h0
  have b1 := chain_bounds h1
  refine ⟨l.length + 1 + 1, ?_⟩
  unfold dockyardlaw10_LeaseChain.f lease_New.f
  simp only [Option.bind_some]
  obtain ⟨o, ho, ho1, ho2⟩ : ∃ o, mx a 1 = o ∧ 1 ≤ o ∧ o < 18446744073709551616 := ⟨_, rfl, by unfold mx; omega, by unfold mx; omega⟩
  rw [ho]
  by_cases hf : o = 18446744073709551615 ∨ 18446744073709551607 < now
  · rw [chain_grant_no (l.length + 1) o now ho1 hf]
    simp only [Option.bind_some]
    rw [if_neg (by omega), chain_alive]; rfl
  · rw [chain_grant_yes (l.length + 1) o now ho1 (by omega) (by omega) (by omega)]
    simp only [Option.bind_some, if_true]
    exact chain_loop l hl o (by omega) l.length _ _ _ _ (by omega) (by omega) (by omega) (by omega) (by omega) (by omega)

end Go.Proofs.Ytciekdcbjfpfoaa.Pure
