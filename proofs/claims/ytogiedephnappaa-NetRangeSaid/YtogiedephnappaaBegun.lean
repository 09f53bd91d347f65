/- The contract of the law's 'begun'. -/
import Derived.Test.YtogiedephnappaaCalls2
namespace Go.Proofs.Ytogiedephnappaa.Net
open Go.RowKit Go.Proofs.Ytogiedephnappaa.Mem

/-- A net that is the law's own: all of it lies at b or behind. -/
structure Own (b : Nat) (w : World) (g : Nat) (v : Value) (room : Int) (l : List Ms) : Prop where
  net : Nt w g v room l
  hg : b ≤ g
  hv : ∀ k, v.ownBlock = some k → b ≤ k

theorem Own.sent {b g : Nat} {w w' : World} {v : Value} {room : Int} {l : List Ms} {dst : Int} {raw : List Int} {W : World} (h : Own b w g v room l) (hs : Sent w g v room l dst raw w') (hb : Below b W w) (hw : b ≤ w.heap.size) :
    ∃ v' u, Own b w' g v' room (l ++ [⟨dst, u, raw⟩]) ∧ Below b W w' ∧ b ≤ w'.heap.size := by
  obtain ⟨v', u, hn, hk, hv, _⟩ := hs
  refine ⟨v', u, ⟨hn, h.hg, fun k e => ?_⟩, hk.out hb (fun k e => ?_) hw, Nat.le_trans hw hk.size⟩
  · rcases hv with e2 | e2
    · exact h.hv k (e2 ▸ e)
    · exact Nat.le_trans hw (e2 k e)
  · rcases e with rfl | e
    · exact h.hg
    · exact h.hv k e

theorem Own.dropped {b g : Nat} {w w' : World} {v : Value} {room : Int} {l l' : List Ms} {W : World} (h : Own b w g v room l) (hs : Dropped w g room l' w') (hb : Below b W w) (hw : b ≤ w.heap.size) :
    ∃ v', Own b w' g v' room l' ∧ Below b W w' ∧ b ≤ w'.heap.size := by
  obtain ⟨v', hn, hk, hv⟩ := hs
  refine ⟨v', ⟨hn, h.hg, fun k e => Nat.le_trans hw (hv k e)⟩, hk.out hb (fun k e => ?_) hw, Nat.le_trans hw hk.size⟩
  subst e
  exact h.hg

theorem sl7 (w : World) : Sl (w.alloc (.cells #[.int .u8 7] 5)) 1 (some ⟨w.heap.size, 0, none⟩) ([7] : List Int).length (bcs [7]) := by
  refine ⟨rfl, fun _ => ⟨w.heap.size, 0, rfl, fun j z hz => ?_⟩⟩
  rw [Nat.zero_add, (Blk.new w 5 _).cell]
  simpa [bcs] using hz

set_option maxHeartbeats 800000 in
theorem begun (room : Int) (w : World) : Calls Try.prog 9 #[.int .i64 room] w fun e w' =>
    ∃ m, e = .returned (.tuple #[.pointer (some ⟨m, 0, none⟩), .bool true]) ∧ Own w.heap.size w' m (.slice none 0 0) (max room 0) [] ∧ Below w.heap.size w w' := by
  go_enter Try.func9, Try.ntmps9
  go_wp2_with fail
  refine (new_net 2 w).mono ?_
  rintro e w1 ⟨rfl, hn, hb⟩
  have H1 : Hid (Own w.heap.size w1 w.heap.size (.slice none 0 0) 2 []) := ⟨hn, Nat.le_refl _, fun k e => by cases e⟩
  have HB1 := Lib.hid hb
  have HA : Hid (Own w.heap.size (w1.alloc (.cells #[.int .u8 7] 5)) w.heap.size (.slice none 0 0) 2 []) := ⟨hn.below ((Below.refl _ _).alloc (Nat.le_refl _) _), Nat.le_refl _, fun k e => by cases e⟩
  clear hn hb
  go_wp2_with fail
  refine (send_ok _ w.heap.size _ 2 [] HA.out.net (by decide) (by decide) 3 _ 1 [7] (sl7 w1) (by simp) (by decide)).mono ?_
  rintro e w2 ⟨rfl, hs⟩
  obtain ⟨v2, u2, h2, hb2, hz2⟩ := HA.out.sent hs (HB1.out.alloc HB1.out.size _) (by have := HB1.out.size; simp; omega)
  have H2 := Lib.hid h2
  have HB2 := Lib.hid hb2
  clear h2 hb2 hs HA H1 HB1
  go_wp2_with fail
  refine (double w2 w.heap.size v2 2 _ H2.out.net 0 ⟨3, u2, [7]⟩ rfl (by simp) (by simp)).mono ?_
  rintro e w3 (⟨hbad, _⟩ | ⟨_, rfl, hs⟩)
  · exact absurd hbad (by simp)
  obtain ⟨v3, u3, h3, hb3, hz3⟩ := H2.out.sent hs HB2.out hz2
  have H3 := Lib.hid h3
  have HB3 := Lib.hid hb3
  clear h3 hb3 hs H2 HB2
  go_wp2_with fail
  refine (send_full w3 w.heap.size v3 2 _ H3.out.net rfl 3 _).mono ?_
  rintro e w4 ⟨rfl, hb⟩
  have H4 : Hid (Own w.heap.size w4 w.heap.size v3 2 _) := ⟨H3.out.net.below hb, H3.out.hg, H3.out.hv⟩
  have HB4 : Hid (Below w.heap.size w w4) := HB3.out.trans (hb.mono hz3)
  have hz4 : w.heap.size ≤ w4.heap.size := HB4.out.size
  clear hb H3 HB3
  go_wp2_with fail
  refine (take_yes w4 w.heap.size v3 2 _ H4.out.net 1 ⟨3, u3, [7]⟩ rfl (by simp) (by simp)).mono ?_
  rintro e w5 ⟨u, rfl, hown, hd⟩
  obtain ⟨v5, h5, hb5, hz5⟩ := H4.out.dropped hd HB4.out hz4
  obtain ⟨U, cu, rfl, _, _, _, hsl, _⟩ := Sl.of_own hown
  obtain ⟨ub, uo, rfl, hc⟩ := hsl.2 (by simp)
  have hc7 : w5.cell? ⟨ub, uo, none⟩ = some (.int .u8 7) := hc 0 _ rfl
  have H5 := Lib.hid h5
  have HB5 := Lib.hid hb5
  clear h5 hb5 hd H4 HB4 hown hsl hc
  go_wp2_with fail
  refine (new_net room w5).mono ?_
  rintro e w6 ⟨rfl, hn, hb⟩
  have H6 : Hid (Own w.heap.size w6 w5.heap.size (.slice none 0 0) (max room 0) []) := ⟨hn, hz5, fun k e => by cases e⟩
  have HB6 : Hid (Below w.heap.size w w6) := HB5.out.trans (hb.mono hz5)
  have H5' : Hid (Own w.heap.size w6 w.heap.size v5 2 _) := ⟨H5.out.net.below hb, H5.out.hg, H5.out.hv⟩
  have c6 : w6.cell? ⟨ub, uo, none⟩ = some (.int .u8 7) := (hb.cell (p := ⟨ub, uo, none⟩) (block_lt hc7)).trans hc7
  have HL := Lib.hid (len w6 _ _ _ _ H5'.out.net)
  clear hn hb H5 HB5 hc7 H5'
  go_wp2_with fail
  refine HL.out.mono ?_
  rintro e w7 ⟨rfl, rfl⟩
  clear HL
  go_wp2
  go_ret2
  exact ⟨_, rfl, H6.out, HB6.out⟩

end Go.Proofs.Ytogiedephnappaa.Net
