/- The contract of chunk.Cut. -/
import Derived.Test.YtkkgnehpokeffaaSlBytes
namespace Go.Proofs.Ytkkgnehpokeffaa.Chunk
open Go.RowKit Go.Proofs.Ytkkgnehpokeffaa.Mem Go.Proofs.Ytkkgnehpokeffaa.SlBytes

set_option maxHeartbeats 400000 in
theorem cut (A : Option Addr) (n c k : Nat) (l : List Int) (w : World) (hS : Sl w 1 A n (bcs l)) (hnc : n ≤ c) (_hc : c ≤ 9223372036854775807) (hb : n ≤ 140737488355328) (hN : A = none → n = 0 ∧ c = 0) :
    Calls Try.prog 12 #[.slice A n c, .int .u64 (k : Nat)] w (Made w (min (n - k) 4096) (bcs ((l.drop k).take 4096))) := by
  have hl : l.length = n := by have := hS.1; rw [bcs_len] at this; omega
  have hd1 : bcs (l.drop k) = (bcs l).drop (k * 1) := by simp [bcs]
  by_cases hk : n ≤ k
  · have hk' : (n : Int) ≤ (k : Int) := by omega
    have hx : (l.drop k).take 4096 = [] := by rw [List.drop_eq_nil_of_le (by omega)]; rfl
    have hm : min (n - k) 4096 = 0 := by omega
    rw [hx, hm]
    clear hS hN hl hd1 hx hm hnc
    go_enter Try.func12, Try.ntmps12
    go_wp2
    go_ret
    exact ⟨_, rfl, World.ownsRow_nil _ _ _ _, Below.refl _ _⟩
  · have hk' : (k : Int) < (n : Int) := by omega
    have hr := hS.drop (k := k) (cap := c) (by omega) hnc
    rw [← hd1] at hr
    have hck : c ≠ k := by omega
    rw [if_neg hck] at hr
    have hsome : ∃ ad, A = some ad := by
      rcases A with _ | ad
      · have := hN rfl; omega
      · exact ⟨ad, rfl⟩
    obtain ⟨ad, rfl⟩ := hsome
    simp only [Option.map_some, Nat.mul_one] at hr
    by_cases h4 : (n : Int) - (k : Int) ≤ 4096
    · have ht : (l.drop k).take 4096 = l.drop k := List.take_of_length_le (by rw [List.length_drop]; omega)
      have hm : min (n - k) 4096 = n - k := by omega
      rw [ht, hm]
      have HR := Lib.hid hr
      clear hS hN hl hd1 ht hm hr
      go_enter Try.func12, Try.ntmps12
      go_wp2_with fail
      refine (clone (some (ad.add k)) (n - k) (c - k) _ w HR.out (bcs_one _) (by omega) (fun h => by cases h)).mono ?_
      rintro e w1 ⟨v, rfl, hown, hbel⟩
      have HO := Lib.hid hown
      have HB := Lib.hid hbel
      clear hown hbel
      go_wp2
      go_ret
      exact ⟨_, rfl, HO.out, HB.out⟩
    · have h4' : (4096 : Int) < (n : Int) - (k : Int) := by omega
      have hm : min (n - k) 4096 = 4096 := by omega
      have hr2 := hr.take (k := 4096) (by omega)
      rw [show (bcs (l.drop k)).take (4096 * 1) = bcs ((l.drop k).take 4096) by simp [bcs]] at hr2
      rw [hm]
      have HR := Lib.hid hr2
      clear hS hN hl hd1 hm hr hr2 h4
      go_enter Try.func12, Try.ntmps12
      go_wp2_with fail
      refine (clone (some (ad.add k)) 4096 (c - k) _ w HR.out (bcs_one _) (by omega) (fun h => by cases h)).mono ?_
      rintro e w1 ⟨v, rfl, hown, hbel⟩
      have HO := Lib.hid hown
      have HB := Lib.hid hbel
      clear hown hbel
      go_wp2
      go_ret
      exact ⟨_, rfl, HO.out, HB.out⟩

end Go.Proofs.Ytkkgnehpokeffaa.Chunk
