/- The walk of dockyardlaw03.NetOrder. -/
import Derived.Test.YtogiedephnappaaBufs
namespace Go.Proofs.Ytogiedephnappaa.Net
open Go.RowKit Go.Proofs.Ytogiedephnappaa.Mem

/-- In flight is what was sent from place nx on, up to place i, in order. -/
structure Seg (l : List Ms) (nx i : Nat) (nl : List Ms) : Prop where
  le : nx ≤ i
  len : nl.length = i - nx
  each : ∀ j y, nl[j]? = some y → y.dst = ((nx + j : Nat) : Int) ∧ ∃ x, l[nx + j]? = some x ∧ y.raw = x.raw

theorem Seg.start (l : List Ms) : Seg l 0 0 [] := ⟨Nat.le_refl _, rfl, fun j y h => by simp at h⟩
theorem Seg.put {l nl : List Ms} {nx i : Nat} (h : Seg l nx i nl) {x : Ms} (hx : l[i]? = some x) (u : Value) : Seg l nx (i + 1) (nl ++ [⟨(i : Int), u, x.raw⟩]) := by
  have hle := h.le
  have hlen := h.len
  refine ⟨by omega, by rw [List.length_append, hlen]; simp; omega, fun j y hy => ?_⟩
  by_cases hj : j < nl.length
  · rw [List.getElem?_append_left hj] at hy
    exact h.each j y hy
  · rw [List.getElem?_append_right (by omega)] at hy
    have hj0 : j - nl.length = 0 := by
      have := (List.getElem?_eq_some_iff.1 hy).1
      simp at this
      omega
    rw [hj0] at hy
    simp at hy
    have e : nx + j = i := by omega
    subst hy
    rw [e]
    exact ⟨rfl, x, hx, rfl⟩
theorem Seg.out {l nl : List Ms} {nx i : Nat} (h : Seg l nx i nl) (hlt : nx < i) : Seg l (nx + 1) i (nl.take 0 ++ nl.drop (0 + 1)) := by
  have hlen := h.len
  refine ⟨by omega, by simp [hlen]; omega, fun j y hy => ?_⟩
  have hy2 : nl[j + 1]? = some y := by
    simp only [List.take_zero, List.nil_append, List.getElem?_drop] at hy
    rw [← hy]
    congr 1
    omega
  have := h.each (j + 1) y hy2
  have e : nx + (j + 1) = nx + 1 + j := by omega
  rw [e] at this
  exact this

theorem Own.drewN {b g : Nat} {w : World} {v : Value} {room : Int} {l : List Ms} (h : Own b w g v room l) (n : Nat) : Own b (w.drewN n) g v room l := ⟨h.net.below (below_drewN (Below.refl _ _) n), h.hg, h.hv⟩

/-- Ahead of a round. -/
structure Od (b : Nat) (W w : World) (g : Nat) (room : Int) (l : List Ms) (nx i : Nat) : Prop where
  ex : ∃ v nl, Own b w g v room nl ∧ Below b W w ∧ b ≤ w.heap.size ∧ Seg l nx i nl

theorem Short.get {l : List Ms} {x : Ms} {i : Nat} (h : ∀ x ∈ l, x.raw.length ≤ 140737488351232) (hx : l[i]? = some x) : x.raw.length ≤ 140737488351232 := h x (List.mem_of_getElem? hx)

set_option maxRecDepth 100000 in
set_option maxHeartbeats 1600000 in
theorem order_walk (A B : Option Addr) (cap cap2 : Nat) (l : List Ms) (bs : List Bool) (w : World) (hS : Bufs w A l) (hT : Bools w B bs) :
    Calls Try.prog 6 #[.slice A l.length cap, .slice B bs.length cap2] w fun e w' => e = .returned (.bool true) ∧ Below w.heap.size w w' := by
  have HS := Lib.hid hS
  have HT := Lib.hid hT
  have hN : (l.length : Int) ≤ 5864062014634 := by have := hS.len; omega
  have hN2 : (bs.length : Int) ≤ 140737488351232 := by have := hT.len; omega
  clear hS hT
  go_enter Try.func6, Try.ntmps6
  go_wp2_with fail
  refine (begun _ w).mono ?_
  rintro e w1 ⟨g, rfl, hO, hB⟩
  have hmx : max (l.length : Int) 0 = (l.length : Int) := by omega
  rw [hmx] at hO
  have HR : Hid (Od w.heap.size w w1 g l.length l 0 0) := ⟨_, [], hO, hB, hB.size, Seg.start l⟩
  clear hO hB hmx
  go_wp2_with fail
  go_loopw [7, 26] (fun v7 v26 wr => ∃ nx k : Nat, v7 = .int .i64 nx ∧ v26 = .int .i64 k ∧ nx ≤ k ∧ k ≤ l.length ∧ Hid (Od w.heap.size w wr g l.length l nx k)) (fun _ v26 _ => l.length - (intOf v26).toNat)
  case atStart => exact ⟨0, 0, rfl, rfl, Nat.le_refl _, Nat.zero_le _, HR⟩
  case round =>
    obtain ⟨nx, k, rfl, rfl, hnk, hk, HR⟩ := hrel
    by_cases hlt : k < l.length
    · obtain ⟨v, nl, hO, hB, hz, hsg⟩ := HR.out.ex
      have hnl : nl.length = k - nx := hsg.len
      obtain ⟨x, hx⟩ : ∃ x, l[k]? = some x := ⟨_, List.getElem?_eq_getElem hlt⟩
      have hxs := Short.get HS.out.short hx
      obtain ⟨C, cc, hv, hcs, hcn⟩ := HS.out.reads x (List.mem_of_getElem? hx)
      obtain ⟨bi, oi, rfl, hcell⟩ := (HS.out.sl.below hB).at_ (j := k) (u := .slice C x.raw.length cc) (by rw [List.getElem?_map, hx, ← hv]; rfl)
      have HO := Lib.hid hO
      have HB := Lib.hid hB
      have HZ := Lib.hid hz
      have SG := Lib.hid hsg
      have HX := Lib.hid hx
      have HC := Lib.hid (hcs.below hB)
      have HN := Lib.hid hcn
      clear hO hB hz hsg hx hcs hcn hv HR
      go_wp2_with fail
      refine (send_ok wr g v _ nl HO.out.net (by omega) (by omega) k C cc x.raw HC.out HN.out (by omega)).mono ?_
      rintro e W2 ⟨rfl, hs⟩
      obtain ⟨v2, u2, h2, hb2, hz2⟩ := HO.out.sent hs HB.out HZ.out
      have HO2 := Lib.hid h2
      have HB2 := Lib.hid hb2
      have SG2 := Lib.hid (SG.out.put HX.out u2)
      clear h2 hb2 hs HO HB HZ SG HC HN hcell
      by_cases ht : k < bs.length
      · obtain ⟨t, hb⟩ : ∃ t, bs[k]? = some t := ⟨_, List.getElem?_eq_getElem ht⟩
        obtain ⟨bb, ob, rfl, tcell⟩ := (HT.out.sl.below HB2.out).at_ (j := k) (u := .bool t) (by rw [List.getElem?_map, hb]; rfl)
        clear hb
        cases t
        · go_wp2_with fail
          go_roundw
          case rel => exact ⟨nx, k + 1, by go_num, by go_num, by omega, by omega, ⟨_, _, HO2.out, HB2.out, hz2, SG2.out⟩⟩
          case measure => simp [intOf]; omega
        · go_wp2_with fail
          obtain ⟨⟨yd, yv, yr⟩, hy⟩ : ∃ y, (nl ++ [⟨(k : Int), u2, x.raw⟩])[0]? = some y := ⟨_, List.getElem?_eq_getElem (by have := SG2.out.len; omega)⟩
          obtain ⟨hyd, x2, hx2, hyr⟩ := SG2.out.each 0 _ hy
          rw [Nat.add_zero] at hyd hx2
          change yd = _ at hyd
          change yr = _ at hyr
          subst hyd hyr
          have hxs2 := Short.get HS.out.short hx2
          obtain ⟨C2, cc2, hv2, hcs2, _⟩ := HS.out.reads x2 (List.mem_of_getElem? hx2)
          have hnl2 := SG2.out.len
          have hle := SG2.out.le
          refine (take_yes W2 g v2 _ (nl ++ [⟨(k : Int), u2, x.raw⟩]) HO2.out.net 0 ⟨(nx : Nat), yv, x2.raw⟩ hy (by omega) (show x2.raw.length ≤ _ by omega)).mono ?_
          rintro e W3 ⟨u3, rfl, hown3, hd⟩
          obtain ⟨v3, h3, hb3, hz3⟩ := HO2.out.dropped hd HB2.out HB2.out.size
          obtain ⟨U3, cu3, rfl, _, _, _, hsl3, _⟩ := Sl.of_own hown3
          change Sl W3 1 U3 x2.raw.length (bcs x2.raw) at hsl3
          have HO3 := Lib.hid h3
          have HB3 := Lib.hid hb3
          have SG3 := Lib.hid (SG2.out.out (by omega))
          obtain ⟨bi2, oi2, e2, hcell2⟩ := (HS.out.sl.below hb3).at_ (j := nx) (u := .slice C2 x2.raw.length cc2) (by rw [List.getElem?_map, hx2, ← hv2]; rfl)
          first | subst e2 | (injection e2 with e2; injection e2 with e3 e4; subst e3 e4)
          have hs1 := fun j => run_string_of (P := Try.prog) (W3.drewN j) 35 5 Try.underlying35 Try.underlying5 U3 _ cu3 _ (hsl3.drewN j) 9 Try.underlying9
          have hs2 := fun j => run_string_of (P := Try.prog) (W3.drewN j) 35 5 Try.underlying35 Try.underlying5 C2 _ cc2 _ ((hcs2.below hb3).drewN j) 9 Try.underlying9
          have hnl : nx < l.length := (List.getElem?_eq_some_iff.1 hx2).1
          have hnli : (nx : Int) < (l.length : Int) := by omega
          clear h3 hb3 hd hown3 hsl3 HO2 HB2 SG2 hy hx2 hcs2 hv2 hnl2
          go_wp2_with fail
          go_quiet (fail)
          go_wp2_with fail
          go_roundw
          case rel => exact ⟨nx + 1, k + 1, by go_num, by go_num, by omega, by omega, ⟨_, _, HO3.out.drewN _, below_drewN HB3.out _, hz3, SG3.out⟩⟩
          case measure => simp [intOf]; omega
      · go_wp2_with fail
        go_roundw
        case rel => exact ⟨nx, k + 1, by go_num, by go_num, by omega, by omega, ⟨_, _, HO2.out, HB2.out, hz2, SG2.out⟩⟩
        case measure => simp [intOf]; omega
    · obtain rfl : k = l.length := by omega
      clear hlt
      go_wp2_with fail
      go_loopw [7] (fun v7 wq => ∃ nx : Nat, v7 = .int .i64 nx ∧ nx ≤ l.length ∧ Hid (Od w.heap.size w wq g l.length l nx l.length)) (fun v7 _ => l.length - (intOf v7).toNat)
      case atStart => exact ⟨nx, rfl, hnk, HR⟩
      case round =>
        obtain ⟨nx, rfl, hnk, HR⟩ := hrel
        obtain ⟨v, nl, hO, hB, hz, hsg⟩ := HR.out.ex
        have HO := Lib.hid hO
        have HB := Lib.hid hB
        have SG := Lib.hid hsg
        clear hO hB hsg HR
        by_cases hlt : nx < l.length
        · go_wp2_with fail
          obtain ⟨⟨yd, yv, yr⟩, hy⟩ : ∃ y, (nl)[0]? = some y := ⟨_, List.getElem?_eq_getElem (by have := SG.out.len; omega)⟩
          obtain ⟨hyd, x2, hx2, hyr⟩ := SG.out.each 0 _ hy
          rw [Nat.add_zero] at hyd hx2
          change yd = _ at hyd
          change yr = _ at hyr
          subst hyd hyr
          have hxs2 := Short.get HS.out.short hx2
          obtain ⟨C2, cc2, hv2, hcs2, _⟩ := HS.out.reads x2 (List.mem_of_getElem? hx2)
          have hnl2 := SG.out.len
          have hle := SG.out.le
          refine (take_yes wr g v _ (nl) HO.out.net 0 ⟨(nx : Nat), yv, x2.raw⟩ hy (by omega) (show x2.raw.length ≤ _ by omega)).mono ?_
          rintro e W3 ⟨u3, rfl, hown3, hd⟩
          obtain ⟨v3, h3, hb3, hz3⟩ := HO.out.dropped hd HB.out HB.out.size
          obtain ⟨U3, cu3, rfl, _, _, _, hsl3, _⟩ := Sl.of_own hown3
          change Sl W3 1 U3 x2.raw.length (bcs x2.raw) at hsl3
          have HO3 := Lib.hid h3
          have HB3 := Lib.hid hb3
          have SG3 := Lib.hid (SG.out.out (by omega))
          obtain ⟨bi2, oi2, e2, hcell2⟩ := (HS.out.sl.below hb3).at_ (j := nx) (u := .slice C2 x2.raw.length cc2) (by rw [List.getElem?_map, hx2, ← hv2]; rfl)
          first | subst e2 | (injection e2 with e2; injection e2 with e3 e4; subst e3 e4)
          have hs1 := fun j => run_string_of (P := Try.prog) (W3.drewN j) 35 5 Try.underlying35 Try.underlying5 U3 _ cu3 _ (hsl3.drewN j) 9 Try.underlying9
          have hs2 := fun j => run_string_of (P := Try.prog) (W3.drewN j) 35 5 Try.underlying35 Try.underlying5 C2 _ cc2 _ ((hcs2.below hb3).drewN j) 9 Try.underlying9
          have hnl : nx < l.length := (List.getElem?_eq_some_iff.1 hx2).1
          have hnli : (nx : Int) < (l.length : Int) := by omega
          clear h3 hb3 hd hown3 hsl3 HO HB SG hy hx2 hcs2 hv2 hnl2
          go_wp2_with fail
          go_quiet (fail)
          go_wp2_with fail
          go_roundw
          case rel => exact ⟨nx + 1, by go_num, by omega, ⟨_, _, HO3.out.drewN _, below_drewN HB3.out _, hz3, SG3.out⟩⟩
          case measure => simp [intOf]; omega
        · obtain rfl : nx = l.length := by omega
          have hl0 : nl = [] := List.eq_nil_of_length_eq_zero (by have := SG.out.len; omega)
          subst hl0
          have HL := Lib.hid (len wr g v _ [] HO.out.net)
          go_wp2_with fail
          refine HL.out.mono ?_
          rintro e W3 ⟨rfl, rfl⟩
          clear HL
          go_wp2_with fail
          go_ret
          exact ⟨rfl, HB.out⟩

end Go.Proofs.Ytogiedephnappaa.Net
