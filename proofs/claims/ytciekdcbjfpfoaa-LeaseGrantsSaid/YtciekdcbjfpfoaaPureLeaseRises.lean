/- Proved: dockyardlaw10.LeaseRises returns true: for every start and every list of times, tokens rise and are never given again; no condition. -/
import Derived.Test.YtciekdcbjfpfoaaPLeaseRisesx4
import Derived.Test.YtciekdcbjfpfoaaWSized
namespace Go.Proofs.Ytciekdcbjfpfoaa.PrintWords
open Go.ChangeShapes Go.WideShapes
/-- The printed row names this lemma from inside 'Go.Proofs.Ytciekdcbjfpfoaa', where the words' namespace is 'Go.Proofs.YtciekdcbjfpfoaaW': the same lemma under the name by which the row finds it. -/
theorem sized_ints {H : Type} {enc : TypeId × Value → H} {P : Program} {W : World} {base : Nat} {spare : Nat → Bool} {held : Bool} {t e : TypeId} {k : IntKind} {a : Option Addr} {len cap : Nat} {d : DataW H} {ps : List MemPlace} {ts : List TypeId} {ds : List (DataW H)} {j : Nat}
    (hsz : (DataW.weightsEach P ts ds).all (· ≤ reachBytes) = true) (ht : ts[j]? = some t) (hd : ds[j]? = some d) (hu : P.underlying t = some (.slice e)) (he : P.underlying e = some (.int k)) (hc : P.cellsOf e = 1) {B : Nat} (hB : P.bytesOf e = B)
    (h : DataW.Trod enc P W base spare held t (.slice a len cap) d ps) : len * B ≤ 140737488351232 :=
  Go.Proofs.YtciekdcbjfpfoaaW.PrintWords.sized_ints hsz ht hd hu he hc hB h
end Go.Proofs.Ytciekdcbjfpfoaa.PrintWords
namespace Go.Proofs.Ytciekdcbjfpfoaa.Pure
open Go.RowKit Go.Proofs.Ytciekdcbjfpfoaa.PLeaseRises Go.Proofs.YtciekdcbjfpfoaaW.PrintWords Go.Proofs.YtciekdcbjfpfoaaW.PrintLast

theorem rises_bounds {x : Int} (h : (Lit.int .u64 x).wf = true) : 0 ≤ x ∧ x < 18446744073709551616 := by
  simp [Lit.wf, IntKind.min, IntKind.max, IntKind.bits, IntKind.signed] at h
  omega

theorem rises_next (o : Int) (h : 1 ≤ o) : lease_Office_Next.f o = some o := by
  unfold lease_Office_Next.f
  rw [if_neg (by simp; omega)]

theorem rises_wrap (x : Int) (h0 : 0 ≤ x) (h1 : x < 18446744073709551616) : IntKind.u64.wrap x = x := by
  rw [IntKind.wrap_u64]; omega

theorem rises_grant_no (k : Nat) (o now : Int) (h : 1 ≤ o) (hn : o = 18446744073709551615 ∨ 18446744073709551607 < now) :
    lease_Office_Grant.f (k + 1) o now = some (o, 0, 0, 0, 101) := by
  unfold lease_Office_Grant.f lease_late.f
  rw [rises_next o h]
  simp only [Option.bind_some]
  by_cases h1 : o = 18446744073709551615
  · rw [if_pos h1]; simp only [lease_Office_Grant.j0, if_true]
  · rw [if_neg h1]
    have h2 : (18446744073709551607 : Int) < now := by rcases hn with hn | hn; exact absurd hn h1; exact hn
    have h3 : decide (now > 18446744073709551607) = true := by simpa using h2
    rw [h3]; simp only [lease_Office_Grant.j0, if_true]

theorem rises_grant_yes (k : Nat) (o now : Int) (h : 1 ≤ o) (hm : o < 18446744073709551615) (h0 : 0 ≤ now) (hn : now ≤ 18446744073709551607) :
    lease_Office_Grant.f (k + 1) o now = some (o + 1, 2, o, now + 8, 0) := by
  unfold lease_Office_Grant.f lease_late.f
  rw [rises_next o h]
  simp only [Option.bind_some]
  rw [if_neg (by omega)]
  have h3 : decide (now > 18446744073709551607) = false := by simpa using hn
  rw [h3]
  simp only [lease_Office_Grant.j0]
  rw [if_neg (by simp), rises_next o h]
  simp only [Option.bind_some]
  rw [rises_wrap (o + 1) (by omega) (by omega), rises_wrap (now + 8) (by omega) (by omega)]

theorem rises_alive (k : Nat) : dockyardlaw10_alive.f (k + 1) = some true := by
  unfold dockyardlaw10_alive.f lease_New.f
  simp only [Option.bind_some]
  rw [show mx 5 1 = 5 from by unfold mx; omega, rises_grant_yes k 5 3 (by omega) (by omega) (by omega) (by omega)]
  simp only [Option.bind_some, if_true]
  rw [rises_next _ (by omega)]
  simp only [Option.bind_some]
  rw [if_pos (by omega), if_pos (by omega)]
  unfold lease_Holds.f
  decide

theorem rises_holds (t u token now : Int) : lease_Holds.f 2 t u token now = some (decide (token ≠ 0 ∧ t = token ∧ now < u)) := by
  unfold lease_Holds.f
  rw [if_pos rfl]
  by_cases h1 : token = 0
  · rw [if_pos h1]; simp [h1]
  · rw [if_neg h1]
    by_cases h2 : t = token
    · rw [if_pos h2]; simp [h1, h2]
    · rw [if_neg h2]; simp [h2]

theorem rises_loop (l : List Int) (hl : l.length * 8 ≤ 140737488351232) (hw : ∀ x ∈ l, (Lit.int .u64 x).wf = true) (d : Nat) :
    ∀ (k : Nat) (last i o : Int), 0 ≤ i → i ≤ (l.length : Int) → (l.length : Int) - i = d → d + 1 < k → 1 ≤ o → o ≤ 18446744073709551615 → last < o →
    dockyardlaw10_LeaseRises.l0 k last l (l.length : Int) i o = some true := by
  induction d with
  | zero =>
    intro k last i o h0 h1 hd hk ho hm hlast
    obtain ⟨k, rfl⟩ : ∃ m, k = m + 1 := ⟨k - 1, by omega⟩
    simp only [dockyardlaw10_LeaseRises.l0]
    obtain ⟨k, rfl⟩ : ∃ m, k = m + 1 := ⟨k - 1, by omega⟩
    rw [if_neg (by omega), rises_alive]; rfl
  | succ d ih =>
    intro k last i o h0 h1 hd hk ho hm hlast
    obtain ⟨k, rfl⟩ : ∃ m, k = m + 1 := ⟨k - 1, by omega⟩
    have hlt : i < (l.length : Int) := by omega
    have hwr : wrap64 (i + 1) = i + 1 := by unfold wrap64; omega
    have hx : 0 ≤ rd l i ∧ rd l i < 18446744073709551616 := by
      have hmem : rd l i ∈ l := by
        unfold rd
        have : i.toNat < l.length := by omega
        simp [List.getD_eq_getElem?_getD, this]
      exact rises_bounds (hw _ hmem)
    simp only [dockyardlaw10_LeaseRises.l0]
    obtain ⟨k, rfl⟩ : ∃ m, k = m + 1 := ⟨k - 1, by omega⟩
    rw [if_pos hlt, if_pos h0, if_pos hlt]
    by_cases hf : o = 18446744073709551615 ∨ 18446744073709551607 < rd l i
    · rw [rises_grant_no k o _ ho hf]
      simp only [Option.bind_some]
      rw [if_neg (by omega), if_neg (by decide), rises_next o ho]
      simp only [Option.bind_some, if_true]
      rw [hwr]
      exact ih (k + 1) last (i + 1) o (by omega) (by omega) (by omega) (by omega) ho hm hlast
    · rw [rises_grant_yes k o _ ho (by omega) (by omega) (by omega)]
      simp only [Option.bind_some, if_true]
      rw [if_neg (by omega), rises_next o ho]
      simp only [Option.bind_some, if_true]
      rw [rises_next (o + 1) (by omega)]
      simp only [Option.bind_some]
      rw [if_neg (by omega), rises_holds, decide_eq_true (by omega)]
      simp only [Option.bind_some, if_true]
      rw [hwr]
      exact ih (k + 1) o (i + 1) (o + 1) (by omega) (by omega) (by omega) (by omega) (by omega) (by omega) (by omega)

theorem LeaseRises : dockyardlaw10_LeaseRises.Pure := by
  intro a0 l h0 _ hl hw
  refine ⟨l.length + 2, ?_⟩
  have hb : 0 ≤ a0 ∧ a0 < 18446744073709551616 := rises_bounds h0
  unfold dockyardlaw10_LeaseRises.f lease_New.f
  simp only [Option.bind_some]
  exact rises_loop l hl hw l.length _ _ _ _ (by omega) (by omega) (by omega) (by omega) (by unfold mx; omega) (by unfold mx; omega) (by unfold mx; omega)

end Go.Proofs.Ytciekdcbjfpfoaa.Pure
