/- The walk of dockyardlaw19.ChunkCuts. -/
import Derived.Test.YtkkgnehpokeffaaAlive
import Derived.Test.YtkkgnehpokeffaaCut
import Derived.Deep.RegionWith
import Derived.BigRegion
namespace Go.Proofs.Ytkkgnehpokeffaa.Chunk
open Go.RowKit Go.Proofs.Ytkkgnehpokeffaa.Mem Go.Proofs.Ytkkgnehpokeffaa.SlBytes

theorem bytes_same (l : List Int) : ((strOfNums l).toList == (strOfNums l).toList) = true := by simp

set_option maxHeartbeats 800000 in
theorem cuts (A : Option Addr) (n c k : Nat) (l : List Int) (w : World) (hS : Sl w 1 A n (bcs l)) (hnc : n ≤ c) (hc : c ≤ 9223372036854775807) (hb : n ≤ 140737488355328) (hN : A = none → n = 0 ∧ c = 0) :
    Calls Try.prog 5 #[.slice A n c, .int .u64 (k : Nat)] w fun e w' => e = .returned (.bool true) ∧ Below w.heap.size w w' := by
  have hl : l.length = n := by have := hS.1; rw [bcs_len] at this; omega
  have HC := Lib.hid (cut A n c k l w hS hnc hc hb hN)
  by_cases hk : n ≤ k
  · have hk' : (n : Int) ≤ (k : Int) := by omega
    have hx : (l.drop k).take 4096 = [] := by rw [List.drop_eq_nil_of_le (by omega)]; rfl
    have hm : min (n - k) 4096 = 0 := by omega
    rw [hx, hm] at HC
    clear hS hN hl hx hm hnc
    go_enter Try.func5, Try.ntmps5
    go_wp2_with fail
    refine HC.out.mono ?_
    rintro e w1 ⟨v, rfl, hown, hbel⟩
    obtain ⟨A1, c1, rfl, _, _, _, _, _⟩ := Sl.of_own hown
    have HB := Lib.hid hbel
    clear hown hbel
    go_wp2_with fail
    refine (alive _).mono ?_
    rintro e w2 ⟨rfl, hb2⟩
    have HE : Hid (Below w.heap.size w w2) := HB.out.trans (hb2.mono HB.out.size)
    clear hb2
    go_wp2
    go_ret
    exact ⟨rfl, HE.out⟩
  · have hk' : (k : Int) < (n : Int) := by omega
    have hck : c ≠ k := by omega
    have hr := hS.drop (k := k) (cap := c) (by omega) hnc
    have hd1 : bcs (l.drop k) = (bcs l).drop (k * 1) := by simp [bcs]
    rw [← hd1, if_neg hck] at hr
    have hsome : ∃ ad, A = some ad := by
      rcases A with _ | ad
      · have := hN rfl; omega
      · exact ⟨ad, rfl⟩
    obtain ⟨ad, rfl⟩ := hsome
    simp only [Option.map_some, Nat.mul_one] at hr
    by_cases h4 : (n : Int) - (k : Int) ≤ 4096
    · have ht : (l.drop k).take 4096 = l.drop k := List.take_of_length_le (by rw [List.length_drop]; omega)
      have hm : min (n - k) 4096 = n - k := by omega
      have hcc : n ≤ c - k + k := by omega
      rw [ht, hm] at HC
      have HR := Lib.hid hr
      clear hS hN hl hd1 ht hm hr
      go_enter Try.func5, Try.ntmps5
      go_wp2_with fail
      refine HC.out.mono ?_
      rintro e w1 ⟨v, rfl, hown, hbel⟩
      obtain ⟨A1, c1, rfl, hA1, hA2, _, hsl, _⟩ := Sl.of_own hown
      have HS1 := Lib.hid hsl
      have HB := Lib.hid hbel
      clear hown hbel hsl
      go_wp2_with fail
      go_region_with (go_at_call 8; refine (alive _).mono ?_; rintro e w2 ⟨rfl, hb2⟩; have hs1 := run_string_of (P := Try.prog) w2 27 5 Try.underlying27 Try.underlying5 A1 (n - k) c1 _ (HS1.out.drew.below hb2) 9 Try.underlying9; have hs2 := run_string_of (P := Try.prog) w2 27 5 Try.underlying27 Try.underlying5 (some (ad.add k)) (n - k) (c - k) _ ((HR.out.below HB.out).drew.below hb2) 9 Try.underlying9; have HE : Hid (Below w.heap.size w w2) := HB.out.drew.trans (hb2.mono HB.out.size); clear hb2)
      all_goals (go_wp2; go_ret; exact ⟨rfl, HE.out⟩)
    · have h4' : (4096 : Int) < (n : Int) - (k : Int) := by omega
      have hm : min (n - k) 4096 = 4096 := by omega
      have hcc : 4096 ≤ c - k := by omega
      have hr2 := hr.take (k := 4096) (by omega)
      rw [show (bcs (l.drop k)).take (4096 * 1) = bcs ((l.drop k).take 4096) by simp [bcs]] at hr2
      rw [hm] at HC
      have HR := Lib.hid hr2
      clear hS hN hl hd1 hm hr hr2 h4
      go_enter Try.func5, Try.ntmps5
      go_wp2_with fail
      refine HC.out.mono ?_
      rintro e w1 ⟨v, rfl, hown, hbel⟩
      obtain ⟨A1, c1, rfl, hA1, hA2, _, hsl, _⟩ := Sl.of_own hown
      have HS1 := Lib.hid hsl
      have HB := Lib.hid hbel
      clear hown hbel hsl
      go_wp2_with fail
      go_region_with (go_at_call 8; refine (alive _).mono ?_; rintro e w2 ⟨rfl, hb2⟩; have hs1 := run_string_of (P := Try.prog) w2 27 5 Try.underlying27 Try.underlying5 A1 4096 c1 _ (HS1.out.drew.below hb2) 9 Try.underlying9; have hs2 := run_string_of (P := Try.prog) w2 27 5 Try.underlying27 Try.underlying5 (some (ad.add k)) 4096 (c - k) _ ((HR.out.below HB.out).drew.below hb2) 9 Try.underlying9; have HE : Hid (Below w.heap.size w w2) := HB.out.drew.trans (hb2.mono HB.out.size); clear hb2)
      all_goals (go_wp2; go_ret; exact ⟨rfl, HE.out⟩)

theorem wf_u64 {x : Int} (h : (Lit.int .u64 x).wf = true) : 0 ≤ x := by
  simp [Lit.wf, IntKind.min, IntKind.max, IntKind.bits, IntKind.signed] at h
  omega

theorem walk_cuts (A : Option Addr) (n c : Nat) (l : List Int) (off : Int) (w : World) (hS : Sl w 1 A n (bcs l)) (hnc : n ≤ c) (hc : c ≤ maxLen) (hb : n * 1 ≤ 140737488355328) (hN : A = none → n = 0 ∧ c = 0) (h0 : (Lit.int .u64 off).wf = true) :
    Calls Try.prog 5 #[.slice A n c, .int .u64 off] w fun e w' => e = .returned (.bool true) ∧ Below w.heap.size w w' := by
  obtain ⟨k, rfl⟩ := Int.eq_ofNat_of_zero_le (wf_u64 h0)
  exact cuts A n c k l w hS hnc (by unfold maxLen at hc; exact hc) (by omega) hN

end Go.Proofs.Ytkkgnehpokeffaa.Chunk
