/- The walk of dockyardlaw19.ChunkAll. -/
import Derived.Test.YtkkgnehpokeffaaAllInv
namespace Go.Proofs.Ytkkgnehpokeffaa.Chunk
open Go.RowKit Go.Proofs.Ytkkgnehpokeffaa.Mem Go.Proofs.Ytkkgnehpokeffaa.SlBytes

theorem after_lit {w6 w7 : World} (hg : (w6.drew.alloc (.cells #[] 5)).grownBy w7 (Value.slice (some ⟨w6.heap.size, 0, none⟩) 0 0).ownBlock) : Below w6.heap.size w6 w7 := by
  refine Below.grown (((Below.refl _ _).drew).alloc (Nat.le_refl _) _) hg (by simp) (fun k hk => ?_)
  have hk : some w6.heap.size = some k := hk
  injection hk with hk
  omega

theorem drew_below (w : World) : Below w.heap.size w w.drew := (Below.refl _ _).drew

set_option linter.unusedSimpArgs false in
set_option maxRecDepth 100000 in
set_option maxHeartbeats 1600000 in
theorem all_walk (A : Option Addr) (c : Nat) (ps : List Pc) (w : World) (hS : Sl w 5 A ps.length (ps.flatMap Pc.cells)) (hc : ps.length ≤ 140737488355328)
    (hp : ∀ P ∈ ps, Sl w 1 P.A P.m (bcs P.p) ∧ P.m ≤ 140737488355328 ∧ (P.A = none → P.m = 0 ∧ P.c = 0) ∧ 0 ≤ P.whole ∧ P.whole < 18446744073709551616 ∧ 0 ≤ P.off) :
    Calls Try.prog 3 #[.slice A ps.length c] w fun e w' => e = .returned (.bool true) ∧ Below w.heap.size w w' := by
  have HS := Lib.hid hS
  have HP := Lib.hid hp
  have hN : (ps.length : Int) ≤ 140737488355328 := by omega
  clear hS hp hc
  go_enter Try.func3, Try.ntmps3
  go_wp2_with (go_at_call 7; refine (new _).mono ?_; rintro e w' ⟨rfl, rfl⟩)
  refine (alive _).mono ?_
  rintro e w1 ⟨rfl, hb1⟩
  have hz1 : w.heap.size + 1 ≤ w1.heap.size := by have := hb1.size; simp at this; omega
  have HB1 : Hid (Below w.heap.size w w1) := ((Below.refl _ _).alloc (Nat.le_refl _) _).trans (hb1.mono (by simp))
  have HG1 := Lib.hid ((gth_new w).below hb1)
  clear hb1
  go_wp2_with fail
  go_loopw [5, 6, 25] (fun v5 v6 v25 wr => ∃ (is : Bool) (A6 : Option Addr) (n6 c6 : Nat) (i t wh : Int) (D : Option Addr) (k : Nat) (dat : List Int) (q : Nat), v5 = .bool is ∧ v6 = .slice A6 n6 c6 ∧ v25 = .int .i64 q ∧ q ≤ ps.length ∧ Hid (AllInv w wr w.heap.size w1.heap.size is A6 n6 c6 i t wh D k dat))
    (fun _ _ v25 _ => ps.length - (intOf v25).toNat)
  case atStart => exact ⟨false, none, 0, 0, 0, 0, 0, none, 0, [], 0, rfl, rfl, rfl, Nat.zero_le _, ⟨HG1.out.alloc _, by simp, by simp, by simp, by simp, ⟨0, 0, 0, 0, _, Blk.new _ _ _, fun h => by cases h⟩, fun _ => rfl, Sl.nil _ _ _, fun _ => ⟨rfl, rfl⟩, by simp, HB1.out.alloc (by omega) _, Nat.le_refl _, by omega⟩⟩
  case round =>
    obtain ⟨wo, rfl⟩ : ∃ wo : World, wo = wr := ⟨_, rfl⟩
    obtain ⟨is, A6, n6, c6, i, t, wh, D, k, dat, q, rfl, rfl, rfl, hq, HI⟩ := hrel
    have hsz := HI.out.bel.size
    by_cases hlt : q < ps.length
    · obtain ⟨P, hP⟩ : ∃ P, ps[q]? = some P := ⟨_, List.getElem?_eq_getElem hlt⟩
      have hcells : ∃ b o, A = some ⟨b, o, none⟩ ∧ ∀ j u, P.cells[j]? = some u → j < 5 → wo.cell? ⟨b, o + q * 5 + j, none⟩ = some u := by
        obtain ⟨b, o, e, _⟩ := (HS.out.below HI.out.bel).at_ (j := q * 5 + 0) (u := .int .u64 P.idx) (by rw [flat_at ps q 0 P hP (by omega)]; rfl)
        refine ⟨b, o, e, fun j u hu hj => ?_⟩
        obtain ⟨b', o', e', hc'⟩ := (HS.out.below HI.out.bel).at_ (j := q * 5 + j) (u := u) (by rw [flat_at ps q j P hP hj]; exact hu)
        rw [e] at e'
        injection e' with e'
        injection e' with e1 e2
        subst e1 e2
        rw [Nat.add_assoc]
        exact hc'
      obtain ⟨b, o, rfl, hcs⟩ := hcells
      have c0 : wo.cell? ⟨b, o + q * 5, none⟩ = some (.int .u64 P.idx) := hcs 0 _ rfl (by omega)
      have c1 : wo.cell? ⟨b, o + q * 5 + 1, none⟩ = some (.int .u64 P.term) := hcs 1 _ rfl (by omega)
      have c2 : wo.cell? ⟨b, o + q * 5 + 2, none⟩ = some (.int .u64 P.whole) := hcs 2 _ rfl (by omega)
      have c3 : wo.cell? ⟨b, o + q * 5 + 3, none⟩ = some (.int .u64 P.off) := hcs 3 _ rfl (by omega)
      have c4 : wo.cell? ⟨b, o + q * 5 + 4, none⟩ = some (.slice P.A P.m P.c) := hcs 4 _ rfl (by omega)
      obtain ⟨hPs, hPm, hPn, hPw0, hPw1, hPo⟩ := HP.out P (List.mem_of_getElem? hP)
      have HPs := Lib.hid hPs
      have HPn := Lib.hid hPn
      have HPx := Lib.hid hP
      clear hcs hPs hPn hP
      obtain ⟨idx, term, whole, off, PA, Pm, Pc, p⟩ := P
      simp only at c0 c1 c2 c3 c4 HPs HPn hPm hPw0 hPw1 hPo
      obtain ⟨i0, hi, hz0, hz1, hz2⟩ := info_parts info
      have HI0 := Lib.hid hi
      clear hi
      have HBr : Hid (Below w.heap.size w wo) := HI.out.bel
      have HPr : Hid (Sl (wo.alloc (.cells #[.int .u64 idx, .int .u64 term, .int .u64 whole, .int .u64 off, .slice PA Pm Pc] 29)) 1 PA Pm (bcs p)) := (HPs.out.below HBr.out).alloc _
      go_wp2_with (at_builtin; refine wpList_append_sl _ rfl (.tmp 33) (.tmp 35) _ rfl wo.heap.size 5 i0 _ 1 1 Try.underlying27 HI0.out hz0 hz1 hz2 rfl (by decide) (.slice (some ⟨wo.heap.size + 1, 0, none⟩) 0 0) 0 [] rfl (own_lit_at (wo.alloc (.cells #[.int .u64 idx, .int .u64 term, .int .u64 whole, .int .u64 off, .slice PA Pm Pc] 29)) wo.heap.size 5 1 (wo.heap.size + 1) (by simp) (by simp)) PA Pm Pc (bcs p) rfl (HPr.out.alloc _) (bcs_one p) (by unfold maxLen; omega) (by omega) (by simp; omega) ?_; intro v' w2 hown' hgrow hat; obtain ⟨hbx2, hbel2, hne2⟩ := after_own hgrow hat; simp only [Nat.zero_add, List.nil_append] at hown'; obtain ⟨A2, k2, rfl, _, _, _, hsl2, hblk2⟩ := Sl.of_own hown'; have x0 : w2.cell? ⟨wo.heap.size, 0, none⟩ = some (.int .u64 idx) := (hbx2.cell 0).trans rfl; have x1 : w2.cell? ⟨wo.heap.size, 1, none⟩ = some (.int .u64 term) := (hbx2.cell 1).trans rfl; have x2 : w2.cell? ⟨wo.heap.size, 2, none⟩ = some (.int .u64 whole) := (hbx2.cell 2).trans rfl; have x3 : w2.cell? ⟨wo.heap.size, 3, none⟩ = some (.int .u64 off) := (hbx2.cell 3).trans rfl; have HO2 := Lib.hid hown'; have HX2 := Lib.hid hbx2; have HS2 := Lib.hid hsl2; have HB2 := Lib.hid hbel2; have HN2 := Lib.hid hne2; have HK2 := Lib.hid hblk2; clear hown' hgrow hat hsl2 hbx2 hbel2 hne2 hblk2)
      obtain ⟨hHO, hHX, hHN, hHK, hHB⟩ : Hid (w2.ownsRow wo.heap.size 5 1 (.slice A2 Pm k2) Pm (bcs p)) ∧ Hid (Blk w2 wo.heap.size 29 #[.int .u64 idx, .int .u64 term, .int .u64 whole, .int .u64 off, .slice PA Pm Pc]) ∧ True ∧ True ∧ True := ⟨HO2, HX2, trivial, trivial, trivial⟩
      have hHO2 := HO2.out
      have hne : A2.map (·.block) ≠ some w.heap.size := by
        intro e
        have h1 := HN2.out _ (HK2.out ▸ e)
        have h2 := HI.out.gth.1.lt
        omega
      by_cases hbad : Bad whole off Pm
      · refine (take_bad (some ⟨w.heap.size, 0, none⟩) idx term whole off A2 Pm k2 w2 hPw0 hPw1 hPm hbad).mono ?_
        obtain ⟨bo, hM, hO⟩ := mid_bad HI.out HB2.out HX2.out HO2.out HN2.out HK2.out
        have HM := Lib.hid hM
        have HO := Lib.hid hO
        clear hM hO hHO2 hne x0 x1 x2 x3 HX2 HB2 HN2 HK2 HS2 hHO hHX hHN hHK hHB c0 c1 c2 c3 c4 HPs HPn HPr HBr HO2
        rintro e w3 ⟨rfl, rfl⟩
        go_wp2_with fail
        go_loopw [54] (fun v54 wi => ∃ j : Nat, v54 = .int .i64 j ∧ j ≤ Pm ∧ Hid (Mid w wi w.heap.size w1.heap.size wo.heap.size bo Pm #[.int .u64 idx, .int .u64 term, .int .u64 whole, .int .u64 off, .slice PA Pm Pc] is A6 n6 i t wh dat is i t wh D k dat) ∧ Hid (OwnI wi A2 Pm bo)) (fun v54 _ => Pm - (intOf v54).toNat)
        case atStart => exact ⟨0, rfl, Nat.zero_le _, HM, HO⟩
        case round =>
          obtain ⟨j, rfl, hj, HMi, HOi⟩ := hrel
          by_cases hjm : j < Pm
          · obtain ⟨e2, cur, hB, hcur⟩ := HOi.out (by omega)
            obtain ⟨x, hx⟩ := hcur j hjm
            have cx : wr.cell? ⟨bo, j, none⟩ = some (.int .u8 x) := (hB.cell j).trans hx
            have fx := hB.frozen j
            subst e2
            clear hcur hB hx HM HO
            go_wp2_with fail
            obtain ⟨y, hy⟩ : ∃ y, y = IntKind.u8.wrap (x + 1) := ⟨_, rfl⟩
            have hset := HMi.out.set _ HOi.out j hjm (IntKind.u8.wrap (x + 1))
            go_roundw
            case rel => exact ⟨j + 1, by go_num, by omega, hset.1, hset.2⟩
            case measure => simp [intOf]; omega
          · obtain rfl : Pm = j := by omega
            clear HM HO HOi hjm hj
            have z2 : wr.cell? ⟨wo.heap.size, 2, none⟩ = some (.int .u64 whole) := (HMi.out.box.cell 2).trans rfl
            have z3 : wr.cell? ⟨wo.heap.size, 3, none⟩ = some (.int .u64 off) := (HMi.out.box.cell 3).trans rfl
            obtain ⟨w4, rfl⟩ : ∃ w4 : World, w4 = wr := ⟨_, rfl⟩
            go_upto_region 18 with fail
            go_cut [86] (fun v wx => v = .bool true ∧ wx = w4)
            case first =>
              by_cases b1 : 1048576 < whole
              · go_wp2_with fail
                go_meet
                exact ⟨rfl, rfl⟩
              · have b1' : whole ≤ 1048576 := by omega
                by_cases b2 : (4096 : Int) < (Pm : Int)
                · go_wp2_with fail
                  go_meet
                  exact ⟨rfl, rfl⟩
                · have b2' : (Pm : Int) ≤ 4096 := by omega
                  by_cases b3 : whole < off
                  · go_wp2_with fail
                    go_meet
                    exact ⟨rfl, rfl⟩
                  · have b3' : off ≤ whole := by omega
                    have b4 : whole - off < (Pm : Int) := by unfold Bad at hbad; omega
                    go_wp2_with fail
                    go_meet
                    exact ⟨rfl, rfl⟩
            case rest =>
              obtain ⟨rfl, hwc⟩ := hcut
              subst hwc
              have hinv := Lib.hid (inv_bad HI.out HMi.out)
              clear HMi z2 z3
              go_wp2_with fail
              go_roundw
              case rel => exact ⟨is, A6, n6, c6, i, t, wh, D, k, dat, q + 1, rfl, rfl, by go_num, by omega, hinv⟩
              case measure => simp [intOf]; omega
      · have hpl : p.length = Pm := by have := HPs.out.1; rw [bcs_len] at this; omega
        have hlen := Lib.hid (dat_len whole off Pm (Same i idx t term wh whole is) dat p hpl hbad HI.out.len)
        refine (take_good w.heap.size idx term whole off i t wh is D k dat p A2 Pm k2 w2 hPw0 hPo hbad (HI.out.gth.below HB2.out) HI.out.len HS2.out hne).mono ?_
        obtain ⟨dat', hdat'⟩ : ∃ dat', dat1 off (dat0 (Same i idx t term wh whole is) dat) p = dat' := ⟨_, rfl⟩
        rw [hdat'] at hlen ⊢
        have HDAT := Lib.hid hdat'
        clear hdat'
        rintro e w3 ⟨D3, n3, k3, rfl, hG3, hgr3, hD3⟩
        obtain rfl : n3 = dat'.length := hG3.len
        obtain ⟨bo, hM, hO⟩ := mid_good HI.out HB2.out HX2.out HO2.out HN2.out HK2.out hG3 hgr3 hD3
        have HM := Lib.hid hM
        have HO := Lib.hid hO
        clear hM hO hHO2 hne x0 x1 x2 x3 HX2 HB2 HN2 HK2 HS2 hHO hHX hHN hHK hHB c0 c1 c2 c3 c4 HPn HPr HBr HO2 hG3 hgr3 hD3
        go_wp2_with fail
        go_loopw [54] (fun v54 wi => ∃ j : Nat, v54 = .int .i64 j ∧ j ≤ Pm ∧ Hid (Mid w wi w.heap.size w1.heap.size wo.heap.size bo Pm #[.int .u64 idx, .int .u64 term, .int .u64 whole, .int .u64 off, .slice PA Pm Pc] is A6 n6 i t wh dat true idx term whole D3 k3 dat') ∧ Hid (OwnI wi A2 Pm bo)) (fun v54 _ => Pm - (intOf v54).toNat)
        case atStart => exact ⟨0, rfl, Nat.zero_le _, HM, HO⟩
        case round =>
          obtain ⟨j, rfl, hj, HMi, HOi⟩ := hrel
          by_cases hjm : j < Pm
          · obtain ⟨e2, cur, hB, hcur⟩ := HOi.out (by omega)
            obtain ⟨x, hx⟩ := hcur j hjm
            have cx : wr.cell? ⟨bo, j, none⟩ = some (.int .u8 x) := (hB.cell j).trans hx
            have fx := hB.frozen j
            subst e2
            clear hcur hB hx HM HO
            go_wp2_with fail
            obtain ⟨y, hy⟩ : ∃ y, y = IntKind.u8.wrap (x + 1) := ⟨_, rfl⟩
            have hset := HMi.out.set _ HOi.out j hjm (IntKind.u8.wrap (x + 1))
            go_roundw
            case rel => exact ⟨j + 1, by go_num, by omega, hset.1, hset.2⟩
            case measure => simp [intOf]; omega
          · obtain rfl : Pm = j := by omega
            clear HM HO HOi hjm hj
            obtain ⟨w4, rfl⟩ : ∃ w4 : World, w4 = wr := ⟨_, rfl⟩
            have z0 : w4.cell? ⟨wo.heap.size, 0, none⟩ = some (.int .u64 idx) := (HMi.out.box.cell 0).trans rfl
            have z1 : w4.cell? ⟨wo.heap.size, 1, none⟩ = some (.int .u64 term) := (HMi.out.box.cell 1).trans rfl
            have z2 : w4.cell? ⟨wo.heap.size, 2, none⟩ = some (.int .u64 whole) := (HMi.out.box.cell 2).trans rfl
            have z3 : w4.cell? ⟨wo.heap.size, 3, none⟩ = some (.int .u64 off) := (HMi.out.box.cell 3).trans rfl
            have z4 : w4.cell? ⟨wo.heap.size, 4, none⟩ = some (.slice PA Pm Pc) := (HMi.out.box.cell 4).trans rfl
            obtain ⟨hb1, hb2, hb3, hb4⟩ : whole ≤ 1048576 ∧ (Pm : Int) ≤ 4096 ∧ off ≤ whole ∧ (Pm : Int) ≤ whole - off := by unfold Bad at hbad; omega
            clear hbad
            go_upto_region 21 with fail
            go_cut [118] (fun v wx => v = .bool (!Same i idx t term wh whole is) ∧ wx = w4)
            case first =>
              obtain ⟨oi, ot, ow, oo, ob, hO, hO2⟩ := HMi.out.off
              have y0 : w4.cell? ⟨w1.heap.size, 0, none⟩ = some (.int .u64 oi) := (hO.cell 0).trans rfl
              have y1 : w4.cell? ⟨w1.heap.size, 1, none⟩ = some (.int .u64 ot) := (hO.cell 1).trans rfl
              have y2 : w4.cell? ⟨w1.heap.size, 2, none⟩ = some (.int .u64 ow) := (hO.cell 2).trans rfl
              cases is with
              | false =>
                clear hO hO2
                go_wp2_with fail
                go_meet
                exact ⟨by simp [Same], rfl⟩
              | true =>
                obtain ⟨rfl, rfl, rfl⟩ := hO2 rfl
                clear hO hO2
                by_cases e0 : oi = idx
                · by_cases e1 : ot = term
                  · by_cases e2 : ow = whole
                    · subst e0 e1 e2
                      go_wp2_with fail
                      go_meet
                      exact ⟨by simp [Same], rfl⟩
                    · subst e0 e1
                      have e2' : (ow == whole) = false := beq_eq_false_iff_ne.2 e2
                      have e2'' : (ow != whole) = true := bne_iff_ne.2 e2
                      go_wp2_with fail
                      go_meet
                      exact ⟨by simp [Same, e2], rfl⟩
                  · subst e0
                    have e1' : (ot == term) = false := beq_eq_false_iff_ne.2 e1
                    have e1'' : (ot != term) = true := bne_iff_ne.2 e1
                    go_wp2_with fail
                    go_meet
                    exact ⟨by simp [Same, e1], rfl⟩
                · have e0' : (oi == idx) = false := beq_eq_false_iff_ne.2 e0
                  have e0'' : (oi != idx) = true := bne_iff_ne.2 e0
                  go_wp2_with fail
                  go_meet
                  exact ⟨by simp [Same, e0], rfl⟩
            case rest =>
              obtain ⟨rfl, hwc⟩ := hcut
              subst hwc
              obtain ⟨sm, hsm⟩ : ∃ sm, Same i idx t term wh whole is = sm := ⟨_, rfl⟩
              rw [hsm]
              have HSM := Lib.hid hsm
              clear hsm
              obtain ⟨w5, rfl⟩ : ∃ w5 : World, w5 = wc := ⟨_, rfl⟩
              go_upto_if 118 with fail
              go_cut [5, 6] (fun v5 v6 wx => v5 = .bool true ∧ ∃ A7 n7 c7, v6 = .slice A7 n7 c7 ∧ Hid (Fin w wx w.heap.size w1.heap.size wo.heap.size #[.int .u64 idx, .int .u64 term, .int .u64 whole, .int .u64 off, .slice PA Pm Pc] idx term whole D3 k3 dat' A7 n7 c7 (dat0 sm dat)))
              case first =>
                cases sm with
                | true =>
                  obtain ⟨rfl, rfl, rfl, rfl⟩ : i = idx ∧ t = term ∧ wh = whole ∧ is = true := by have := HSM.out; unfold Same at this; simpa using this
                  go_wp2_with fail
                  go_meet
                  exact ⟨rfl, A6, n6, c6, rfl, fin_same HI.out HMi.out rfl⟩
                | false =>
                  obtain ⟨oi, ot, ow, oo, ob, hO, hO2⟩ := HMi.out.off
                  have y0 : w5.cell? ⟨w1.heap.size, 0, none⟩ = some (.int .u64 oi) := (hO.cell 0).trans rfl
                  have y1 : w5.cell? ⟨w1.heap.size, 1, none⟩ = some (.int .u64 ot) := (hO.cell 1).trans rfl
                  have y2 : w5.cell? ⟨w1.heap.size, 2, none⟩ = some (.int .u64 ow) := (hO.cell 2).trans rfl
                  have y3 : w5.cell? ⟨w1.heap.size, 3, none⟩ = some (.int .u64 oo) := (hO.cell 3).trans rfl
                  have y4 : w5.cell? ⟨w1.heap.size, 4, none⟩ = some ob := (hO.cell 4).trans rfl
                  have f0 := hO.frozen 0
                  have f1 := hO.frozen 1
                  have f2 := hO.frozen 2
                  have f3 := hO.frozen 3
                  have f4 := hO.frozen 4
                  clear hO hO2
                  go_wp2_with fail
                  go_meet
                  exact ⟨rfl, none, 0, 0, rfl, fin_diff HI.out HMi.out rfl⟩
              case rest =>
                obtain ⟨rfl, A7, n7, c7, rfl, HF⟩ := hcut
                clear HMi z0 z1 z2 z3 z4
                obtain ⟨w6, rfl⟩ : ∃ w6 : World, w6 = wc := ⟨_, rfl⟩
                have z2 : w6.cell? ⟨wo.heap.size, 2, none⟩ = some (.int .u64 whole) := (HF.out.box.cell 2).trans rfl
                have z3 : w6.cell? ⟨wo.heap.size, 3, none⟩ = some (.int .u64 off) := (HF.out.box.cell 3).trans rfl
                have z4 : w6.cell? ⟨wo.heap.size, 4, none⟩ = some (.slice PA Pm Pc) := (HF.out.box.cell 4).trans rfl
                have hn7 : n7 = (dat0 sm dat).length := by have := HF.out.sl.1; rw [bcs_len] at this; omega
                have hn7b : (n7 : Int) ≤ 1048576 := by
                  have h1 := HI.out.len
                  have h2 : (dat0 sm dat).length ≤ dat.length := by unfold dat0; split <;> simp
                  omega
                have HN7 := Lib.hid hn7
                clear hn7
                go_upto_if 125 with fail
                go_cut [6] (fun v6 wx => ∃ A8 n8 c8, v6 = .slice A8 n8 c8 ∧ Hid (Fin w wx w.heap.size w1.heap.size wo.heap.size #[.int .u64 idx, .int .u64 term, .int .u64 whole, .int .u64 off, .slice PA Pm Pc] idx term whole D3 k3 dat' A8 n8 c8 dat'))
                case first =>
                  have hd := HDAT.out
                  rw [HSM.out] at hd
                  unfold dat1 at hd
                  rw [← HN7.out] at hd
                  by_cases hon : off = (n7 : Int)
                  · have hon' : (off == (n7 : Int)) = true := by rw [hon]; exact beq_self_eq_true _
                    rw [if_pos hon] at hd
                    have hd3 : bcs dat' = bcs (dat0 sm dat) ++ bcs p := by rw [← hd, bcs_app]
                    clear hd hon
                    have hgp : wo.heap.size < w6.heap.size := HF.out.box.lt
                    have q4a : (w6.drew.alloc (.cells #[] 5)).cell? ⟨wo.heap.size, 4, none⟩ = some (.slice PA Pm Pc) := ((HF.out.box.drew.alloc _).cell 4).trans rfl
                    go_wp2_with fail
                    refine wp_region_held_drew (S := fun _ => True) (by kernel_rfl) trivial (fun hHeld => ?_)
                    refine wpAnyH_take (i := 1) (v := ?_) rfl (by kernel_rfl) (by kernel_rfl) (by kernel_rfl) (fun _ _ _ h => h) (Or.inl ⟨by rfl, ?_⟩) trivial ?_
                    rotate_left
                    · intro w hSw; first | (go_simp; done) | (go_simp; with_reducible rfl)
                    try simp only [List.getElem_toArray, List.getElem_cons_zero, List.getElem_cons_succ, Act.put, List.setIfInBounds_toArray, List.set_cons_zero, List.set_cons_succ]
                    refine wpAnyH_take (i := 3) (v := ?_) rfl (by kernel_rfl) (by kernel_rfl) (by kernel_rfl) (fun _ _ _ h => h) (Or.inl ⟨by rfl, ?_⟩) trivial ?_
                    rotate_left
                    · intro w hSw; first | (go_simp; done) | (go_simp; with_reducible rfl)
                    try simp only [List.getElem_toArray, List.getElem_cons_zero, List.getElem_cons_succ, Act.put, List.setIfInBounds_toArray, List.set_cons_zero, List.set_cons_succ]
                    refine wpAnyH_ready (rs := [0, 4]) (by kernel_rfl) (by simp) ?_
                    refine AllReadyH.cons rfl (fun K hK => ?_) (AllReadyH.cons rfl (fun K hK => ?_) AllReadyH.nil)
                    · skip
                      try simp only [List.getElem_toArray, List.getElem_cons_zero, List.getElem_cons_succ]
                      go_simp
                      refine hK.out _ _ trivial (fun hHeld => ?_)
                      clear hK K
                      try simp only [List.getElem_toArray, List.getElem_cons_zero, List.getElem_cons_succ, Act.put, List.setIfInBounds_toArray, List.set_cons_zero, List.set_cons_succ]
                      refine wpAnyH_ready (rs := [2, 4]) (by kernel_rfl) (by simp) ?_
                      refine AllReadyH.cons rfl (fun K hK => ?_) (AllReadyH.cons rfl (fun K hK => ?_) AllReadyH.nil)
                      · skip
                        try simp only [List.getElem_toArray, List.getElem_cons_zero, List.getElem_cons_succ]
                        refine wp_append_sl _ (.tmp 126) (.tmp 127) 27 rfl w6.heap.size 5 i0 _ 1 1 Try.underlying27 HI0.out hz0 hz1 hz2 rfl (by decide) (.slice (some ⟨w6.heap.size, 0, none⟩) 0 0) 0 [] rfl (own_lit_at w6.drew w6.heap.size 5 1 w6.heap.size (Nat.le_refl _) rfl) A7 n7 c7 (bcs (dat0 sm dat)) rfl (HF.out.sl.drew.alloc _) (bcs_one _) (by unfold maxLen; omega) (by omega) (by simp) ?_
                        intro v2 w7 hown2 hgrow2 hat2
                        have HB7 := Lib.hid (after_lit hgrow2)
                        simp only [Nat.zero_add, List.nil_append] at hown2
                        have HO7 := Lib.hid hown2
                        have q4 : w7.cell? ⟨wo.heap.size, 4, none⟩ = some (.slice PA Pm Pc) := ((HF.out.box.below HB7.out).cell 4).trans rfl
                        clear hown2 hgrow2 hat2
                        try (go_wp2_with fail)
                        refine hK.out _ _ trivial (fun hHeld => ?_)
                        clear hK K
                        try simp only [List.getElem_toArray, List.getElem_cons_zero, List.getElem_cons_succ, Act.put, List.setIfInBounds_toArray, List.set_cons_zero, List.set_cons_succ]
                        refine wpAnyH_ready (rs := [4]) (by kernel_rfl) (by simp) ?_
                        refine AllReadyH.cons rfl (fun K hK => ?_) AllReadyH.nil
                        try simp only [List.getElem_toArray, List.getElem_cons_zero, List.getElem_cons_succ]
                        go_simp
                        refine hK.out _ _ trivial (fun hHeld => ?_)
                        clear hK K
                        try simp only [List.getElem_toArray, List.getElem_cons_zero, List.getElem_cons_succ, Act.put, List.setIfInBounds_toArray, List.set_cons_zero, List.set_cons_succ]
                        refine wpAnyH_ready (rs := [5]) (by kernel_rfl) (by simp) ?_
                        refine AllReadyH.cons rfl (fun K hK => ?_) AllReadyH.nil
                        try simp only [List.getElem_toArray, List.getElem_cons_zero, List.getElem_cons_succ]
                        refine wp_append_sl w7 (.tmp 128) (.tmp 130) 27 rfl w6.heap.size 5 i0 _ 1 1 Try.underlying27 HI0.out hz0 hz1 hz2 rfl (by decide) v2 n7 (bcs (dat0 sm dat)) rfl HO7.out PA Pm Pc (bcs p) rfl ((HPs.out.below HF.out.bel).below HB7.out) (bcs_one _) (by unfold maxLen; omega) (by omega) HB7.out.size ?_
                        intro v3 w8 hown3 hgrow3 hat3
                        have HB8 := Lib.hid (HB7.out.grown hgrow3 HB7.out.size (fun k hk => (HO7.out.lt k hk).1))
                        obtain ⟨A8, c8, rfl, _, _, _, _, _⟩ := Sl.of_own hown3
                        have HO8 := Lib.hid hown3
                        clear hown3 hgrow3 hat3
                        try (go_wp2_with fail)
                        refine hK.out _ _ trivial (fun hHeld => ?_)
                        clear hK K
                        try simp only [List.getElem_toArray, List.getElem_cons_zero, List.getElem_cons_succ, Act.put, List.setIfInBounds_toArray, List.set_cons_zero, List.set_cons_succ]
                        refine wpAnyH_take (i := 6) (v := ?_) rfl (by kernel_rfl) (by kernel_rfl) (by kernel_rfl) (fun _ _ _ h => h) (Or.inl ⟨by rfl, ?_⟩) trivial ?_
                        rotate_left
                        · intro w hSw; first | (go_simp; done) | (go_simp; with_reducible rfl)
                        try simp only [List.getElem_toArray, List.getElem_cons_zero, List.getElem_cons_succ, Act.put, List.setIfInBounds_toArray, List.set_cons_zero, List.set_cons_succ]
                        refine wpAnyH_done (by kernel_rfl) ?_ _
                        (go_wp2_with fail; go_meet; exact ⟨_, _, _, rfl, HF.out.own HB8.out (by rw [hd3]; exact HO8.out)⟩)
                      · skip
                        try simp only [List.getElem_toArray, List.getElem_cons_zero, List.getElem_cons_succ]
                        go_simp
                        refine hK.out _ _ trivial (fun hHeld => ?_)
                        clear hK K
                        try simp only [List.getElem_toArray, List.getElem_cons_zero, List.getElem_cons_succ, Act.put, List.setIfInBounds_toArray, List.set_cons_zero, List.set_cons_succ]
                        refine wpAnyH_ready (rs := [2]) (by kernel_rfl) (by simp) ?_
                        refine AllReadyH.cons rfl (fun K hK => ?_) AllReadyH.nil
                        try simp only [List.getElem_toArray, List.getElem_cons_zero, List.getElem_cons_succ]
                        refine wp_append_sl _ (.tmp 126) (.tmp 127) 27 rfl w6.heap.size 5 i0 _ 1 1 Try.underlying27 HI0.out hz0 hz1 hz2 rfl (by decide) (.slice (some ⟨w6.heap.size, 0, none⟩) 0 0) 0 [] rfl (own_lit_at w6.drew w6.heap.size 5 1 w6.heap.size (Nat.le_refl _) rfl) A7 n7 c7 (bcs (dat0 sm dat)) rfl (HF.out.sl.drew.alloc _) (bcs_one _) (by unfold maxLen; omega) (by omega) (by simp) ?_
                        intro v2 w7 hown2 hgrow2 hat2
                        have HB7 := Lib.hid (after_lit hgrow2)
                        simp only [Nat.zero_add, List.nil_append] at hown2
                        have HO7 := Lib.hid hown2
                        have q4 : w7.cell? ⟨wo.heap.size, 4, none⟩ = some (.slice PA Pm Pc) := ((HF.out.box.below HB7.out).cell 4).trans rfl
                        clear hown2 hgrow2 hat2
                        try (go_wp2_with fail)
                        refine hK.out _ _ trivial (fun hHeld => ?_)
                        clear hK K
                        try simp only [List.getElem_toArray, List.getElem_cons_zero, List.getElem_cons_succ, Act.put, List.setIfInBounds_toArray, List.set_cons_zero, List.set_cons_succ]
                        refine wpAnyH_ready (rs := [5]) (by kernel_rfl) (by simp) ?_
                        refine AllReadyH.cons rfl (fun K hK => ?_) AllReadyH.nil
                        try simp only [List.getElem_toArray, List.getElem_cons_zero, List.getElem_cons_succ]
                        refine wp_append_sl w7 (.tmp 128) (.tmp 130) 27 rfl w6.heap.size 5 i0 _ 1 1 Try.underlying27 HI0.out hz0 hz1 hz2 rfl (by decide) v2 n7 (bcs (dat0 sm dat)) rfl HO7.out PA Pm Pc (bcs p) rfl ((HPs.out.below HF.out.bel).below HB7.out) (bcs_one _) (by unfold maxLen; omega) (by omega) HB7.out.size ?_
                        intro v3 w8 hown3 hgrow3 hat3
                        have HB8 := Lib.hid (HB7.out.grown hgrow3 HB7.out.size (fun k hk => (HO7.out.lt k hk).1))
                        obtain ⟨A8, c8, rfl, _, _, _, _, _⟩ := Sl.of_own hown3
                        have HO8 := Lib.hid hown3
                        clear hown3 hgrow3 hat3
                        try (go_wp2_with fail)
                        refine hK.out _ _ trivial (fun hHeld => ?_)
                        clear hK K
                        try simp only [List.getElem_toArray, List.getElem_cons_zero, List.getElem_cons_succ, Act.put, List.setIfInBounds_toArray, List.set_cons_zero, List.set_cons_succ]
                        refine wpAnyH_take (i := 6) (v := ?_) rfl (by kernel_rfl) (by kernel_rfl) (by kernel_rfl) (fun _ _ _ h => h) (Or.inl ⟨by rfl, ?_⟩) trivial ?_
                        rotate_left
                        · intro w hSw; first | (go_simp; done) | (go_simp; with_reducible rfl)
                        try simp only [List.getElem_toArray, List.getElem_cons_zero, List.getElem_cons_succ, Act.put, List.setIfInBounds_toArray, List.set_cons_zero, List.set_cons_succ]
                        refine wpAnyH_done (by kernel_rfl) ?_ _
                        (go_wp2_with fail; go_meet; exact ⟨_, _, _, rfl, HF.out.own HB8.out (by rw [hd3]; exact HO8.out)⟩)
                    · skip
                      try simp only [List.getElem_toArray, List.getElem_cons_zero, List.getElem_cons_succ]
                      go_simp
                      refine hK.out _ _ trivial (fun hHeld => ?_)
                      clear hK K
                      try simp only [List.getElem_toArray, List.getElem_cons_zero, List.getElem_cons_succ, Act.put, List.setIfInBounds_toArray, List.set_cons_zero, List.set_cons_succ]
                      refine wpAnyH_ready (rs := [0]) (by kernel_rfl) (by simp) ?_
                      refine AllReadyH.cons rfl (fun K hK => ?_) AllReadyH.nil
                      try simp only [List.getElem_toArray, List.getElem_cons_zero, List.getElem_cons_succ]
                      go_simp
                      refine hK.out _ _ trivial (fun hHeld => ?_)
                      clear hK K
                      try simp only [List.getElem_toArray, List.getElem_cons_zero, List.getElem_cons_succ, Act.put, List.setIfInBounds_toArray, List.set_cons_zero, List.set_cons_succ]
                      refine wpAnyH_ready (rs := [2]) (by kernel_rfl) (by simp) ?_
                      refine AllReadyH.cons rfl (fun K hK => ?_) AllReadyH.nil
                      try simp only [List.getElem_toArray, List.getElem_cons_zero, List.getElem_cons_succ]
                      refine wp_append_sl _ (.tmp 126) (.tmp 127) 27 rfl w6.heap.size 5 i0 _ 1 1 Try.underlying27 HI0.out hz0 hz1 hz2 rfl (by decide) (.slice (some ⟨w6.heap.size, 0, none⟩) 0 0) 0 [] rfl (own_lit_at w6.drew w6.heap.size 5 1 w6.heap.size (Nat.le_refl _) rfl) A7 n7 c7 (bcs (dat0 sm dat)) rfl (HF.out.sl.drew.alloc _) (bcs_one _) (by unfold maxLen; omega) (by omega) (by simp) ?_
                      intro v2 w7 hown2 hgrow2 hat2
                      have HB7 := Lib.hid (after_lit hgrow2)
                      simp only [Nat.zero_add, List.nil_append] at hown2
                      have HO7 := Lib.hid hown2
                      have q4 : w7.cell? ⟨wo.heap.size, 4, none⟩ = some (.slice PA Pm Pc) := ((HF.out.box.below HB7.out).cell 4).trans rfl
                      clear hown2 hgrow2 hat2
                      try (go_wp2_with fail)
                      refine hK.out _ _ trivial (fun hHeld => ?_)
                      clear hK K
                      try simp only [List.getElem_toArray, List.getElem_cons_zero, List.getElem_cons_succ, Act.put, List.setIfInBounds_toArray, List.set_cons_zero, List.set_cons_succ]
                      refine wpAnyH_ready (rs := [5]) (by kernel_rfl) (by simp) ?_
                      refine AllReadyH.cons rfl (fun K hK => ?_) AllReadyH.nil
                      try simp only [List.getElem_toArray, List.getElem_cons_zero, List.getElem_cons_succ]
                      refine wp_append_sl w7 (.tmp 128) (.tmp 130) 27 rfl w6.heap.size 5 i0 _ 1 1 Try.underlying27 HI0.out hz0 hz1 hz2 rfl (by decide) v2 n7 (bcs (dat0 sm dat)) rfl HO7.out PA Pm Pc (bcs p) rfl ((HPs.out.below HF.out.bel).below HB7.out) (bcs_one _) (by unfold maxLen; omega) (by omega) HB7.out.size ?_
                      intro v3 w8 hown3 hgrow3 hat3
                      have HB8 := Lib.hid (HB7.out.grown hgrow3 HB7.out.size (fun k hk => (HO7.out.lt k hk).1))
                      obtain ⟨A8, c8, rfl, _, _, _, _, _⟩ := Sl.of_own hown3
                      have HO8 := Lib.hid hown3
                      clear hown3 hgrow3 hat3
                      try (go_wp2_with fail)
                      refine hK.out _ _ trivial (fun hHeld => ?_)
                      clear hK K
                      try simp only [List.getElem_toArray, List.getElem_cons_zero, List.getElem_cons_succ, Act.put, List.setIfInBounds_toArray, List.set_cons_zero, List.set_cons_succ]
                      refine wpAnyH_take (i := 6) (v := ?_) rfl (by kernel_rfl) (by kernel_rfl) (by kernel_rfl) (fun _ _ _ h => h) (Or.inl ⟨by rfl, ?_⟩) trivial ?_
                      rotate_left
                      · intro w hSw; first | (go_simp; done) | (go_simp; with_reducible rfl)
                      try simp only [List.getElem_toArray, List.getElem_cons_zero, List.getElem_cons_succ, Act.put, List.setIfInBounds_toArray, List.set_cons_zero, List.set_cons_succ]
                      refine wpAnyH_done (by kernel_rfl) ?_ _
                      (go_wp2_with fail; go_meet; exact ⟨_, _, _, rfl, HF.out.own HB8.out (by rw [hd3]; exact HO8.out)⟩)
                  · have hon' : (off == (n7 : Int)) = false := beq_eq_false_iff_ne.2 hon
                    rw [if_neg hon] at hd
                    clear hon
                    go_wp2_with fail
                    go_meet
                    exact ⟨A7, n7, c7, rfl, by rw [← hd]; rw [hd]; rw [hd] at HF; exact HF⟩
                case rest =>
                  obtain ⟨A8, n8, c8, rfl, HF9⟩ := hcut
                  clear z2 z3 z4 HF
                  obtain ⟨w9, rfl⟩ : ∃ w9 : World, w9 = wc := ⟨_, rfl⟩
                  obtain rfl : n8 = dat'.length := by have := HF9.out.sl.1; rw [bcs_len] at this; omega
                  have z2 : w9.cell? ⟨wo.heap.size, 2, none⟩ = some (.int .u64 whole) := (HF9.out.box.cell 2).trans rfl
                  have hdl : (dat'.length : Int) ≤ 1048576 := by have := hlen.out; omega
                  have hwr : IntKind.u64.wrap (dat'.length : Int) = (dat'.length : Int) := by rw [IntKind.wrap_u64]; omega
                  have HG9 : Hid (Gth w9.drew w.heap.size idx term whole true D3 dat'.length k3 dat') := HF9.out.gth.keep (w' := w9.drew) rfl (fun _ _ _ => rfl)
                  have hs0 := run_string_of (P := Try.prog) w9.drew 27 5 Try.underlying27 Try.underlying5 A8 _ c8 _ HF9.out.sl.drew 9 Try.underlying9
                  go_upto_region 27 with fail
                  go_cut [156] (fun v wx => v = .bool false ∧ Hid (Fin w wx w.heap.size w1.heap.size wo.heap.size #[.int .u64 idx, .int .u64 term, .int .u64 whole, .int .u64 off, .slice PA Pm Pc] idx term whole D3 k3 dat' A8 dat'.length c8 dat'))
                  case first =>
                      refine wp_region_held_drew (S := fun _ => True) (by kernel_rfl) trivial (fun hHeld => ?_)
                      refine wpAnyH_take (i := 0) (v := ?_) rfl (by kernel_rfl) (by kernel_rfl) (by kernel_rfl) (fun _ _ _ h => h) (Or.inl ⟨by rfl, ?_⟩) trivial ?_
                      rotate_left
                      · intro w hSw; first | (go_simp; done) | (go_simp; with_reducible rfl)
                      try simp only [List.getElem_toArray, List.getElem_cons_zero, List.getElem_cons_succ, Act.put, List.setIfInBounds_toArray, List.set_cons_zero, List.set_cons_succ]
                      refine wpAnyH_take (i := 1) (v := ?_) rfl (by kernel_rfl) (by kernel_rfl) (by kernel_rfl) (fun _ _ _ h => h) (Or.inl ⟨by rfl, ?_⟩) trivial ?_
                      rotate_left
                      · intro w hSw; first | (go_simp; done) | (go_simp; with_reducible rfl)
                      try simp only [List.getElem_toArray, List.getElem_cons_zero, List.getElem_cons_succ, Act.put, List.setIfInBounds_toArray, List.set_cons_zero, List.set_cons_succ]
                      refine wpAnyH_take (i := 2) (v := ?_) rfl (by kernel_rfl) (by kernel_rfl) (by kernel_rfl) (fun _ _ _ h => h) (Or.inl ⟨by rfl, ?_⟩) trivial ?_
                      rotate_left
                      · intro w hSw; first | (go_simp; done) | (go_simp; with_reducible rfl)
                      try simp only [List.getElem_toArray, List.getElem_cons_zero, List.getElem_cons_succ, Act.put, List.setIfInBounds_toArray, List.set_cons_zero, List.set_cons_succ]
                      refine wpAnyH_take (i := 3) (v := ?_) rfl (by kernel_rfl) (by kernel_rfl) (by kernel_rfl) (fun _ _ _ h => h) (Or.inl ⟨by rfl, ?_⟩) trivial ?_
                      rotate_left
                      · intro w hSw; first | (go_simp; done) | (go_simp; with_reducible rfl)
                      try simp only [List.getElem_toArray, List.getElem_cons_zero, List.getElem_cons_succ, Act.put, List.setIfInBounds_toArray, List.set_cons_zero, List.set_cons_succ]
                      refine wpAnyH_take (i := 4) (v := ?_) rfl (by kernel_rfl) (by kernel_rfl) (by kernel_rfl) (fun _ _ _ h => h) (Or.inl ⟨by rfl, ?_⟩) trivial ?_
                      rotate_left
                      · intro w hSw; first | (go_simp; done) | (go_simp; with_reducible rfl)
                      try simp only [List.getElem_toArray, List.getElem_cons_zero, List.getElem_cons_succ, Act.put, List.setIfInBounds_toArray, List.set_cons_zero, List.set_cons_succ]
                      refine wpAnyH_take (i := 5) (v := ?_) rfl (by kernel_rfl) (by kernel_rfl) (by kernel_rfl) (fun _ _ _ h => h) (Or.inl ⟨by rfl, ?_⟩) trivial ?_
                      rotate_left
                      · intro w hSw; first | (go_simp; done) | (go_simp; with_reducible rfl)
                      try simp only [List.getElem_toArray, List.getElem_cons_zero, List.getElem_cons_succ, Act.put, List.setIfInBounds_toArray, List.set_cons_zero, List.set_cons_succ]
                      refine wpAnyH_take (i := 6) (v := ?_) rfl (by kernel_rfl) (by kernel_rfl) (by kernel_rfl) (fun _ _ _ h => h) (Or.inl ⟨by rfl, ?_⟩) trivial ?_
                      rotate_left
                      · intro w hSw; first | (go_simp; done) | (go_simp; with_reducible rfl)
                      try simp only [List.getElem_toArray, List.getElem_cons_zero, List.getElem_cons_succ, Act.put, List.setIfInBounds_toArray, List.set_cons_zero, List.set_cons_succ]
                      refine wpAnyH_take (i := 7) (v := ?_) rfl (by kernel_rfl) (by kernel_rfl) (by kernel_rfl) (fun _ _ _ h => h) (Or.inl ⟨by rfl, ?_⟩) trivial ?_
                      rotate_left
                      · intro w hSw; first | (go_simp; done) | (go_simp; with_reducible rfl)
                      try simp only [List.getElem_toArray, List.getElem_cons_zero, List.getElem_cons_succ, Act.put, List.setIfInBounds_toArray, List.set_cons_zero, List.set_cons_succ]
                      refine wpAnyH_take (i := 8) (v := ?_) rfl (by kernel_rfl) (by kernel_rfl) (by kernel_rfl) (fun _ _ _ h => h) (Or.inl ⟨by rfl, ?_⟩) trivial ?_
                      rotate_left
                      · intro w hSw; first | (go_simp; done) | (go_simp; with_reducible rfl)
                      try simp only [List.getElem_toArray, List.getElem_cons_zero, List.getElem_cons_succ, Act.put, List.setIfInBounds_toArray, List.set_cons_zero, List.set_cons_succ]
                      refine wpAnyH_take (i := 9) (v := ?_) rfl (by kernel_rfl) (by kernel_rfl) (by kernel_rfl) (fun _ _ _ h => h) (Or.inl ⟨by rfl, ?_⟩) trivial ?_
                      rotate_left
                      · intro w hSw; first | (go_simp; done) | (go_simp; with_reducible rfl)
                      try simp only [List.getElem_toArray, List.getElem_cons_zero, List.getElem_cons_succ, Act.put, List.setIfInBounds_toArray, List.set_cons_zero, List.set_cons_succ]
                      refine wpAnyH_take (i := 10) (v := ?_) rfl (by kernel_rfl) (by kernel_rfl) (by kernel_rfl) (fun _ _ _ h => h) (Or.inl ⟨by rfl, ?_⟩) trivial ?_
                      rotate_left
                      · intro w hSw; first | (go_simp; done) | (go_simp; with_reducible rfl)
                      try simp only [List.getElem_toArray, List.getElem_cons_zero, List.getElem_cons_succ, Act.put, List.setIfInBounds_toArray, List.set_cons_zero, List.set_cons_succ]
                      refine wpAnyH_take (i := 11) (v := ?_) rfl (by kernel_rfl) (by kernel_rfl) (by kernel_rfl) (fun _ _ _ h => h) (Or.inl ⟨by rfl, ?_⟩) trivial ?_
                      rotate_left
                      · intro w hSw; first | (go_simp; done) | (go_simp; with_reducible rfl)
                      try simp only [List.getElem_toArray, List.getElem_cons_zero, List.getElem_cons_succ, Act.put, List.setIfInBounds_toArray, List.set_cons_zero, List.set_cons_succ]
                      refine wpAnyH_take (i := 12) (v := ?_) rfl (by kernel_rfl) (by kernel_rfl) (by kernel_rfl) (fun _ _ _ h => h) (Or.inl ⟨by rfl, ?_⟩) trivial ?_
                      rotate_left
                      · intro w hSw; first | (go_simp; done) | (go_simp; with_reducible rfl)
                      try simp only [List.getElem_toArray, List.getElem_cons_zero, List.getElem_cons_succ, Act.put, List.setIfInBounds_toArray, List.set_cons_zero, List.set_cons_succ]
                      refine wpAnyH_ready (rs := [13]) (by kernel_rfl) (by simp) ?_
                      refine AllReadyH.cons rfl (fun K hK => ?_) AllReadyH.nil
                      try simp only [List.getElem_toArray, List.getElem_cons_zero, List.getElem_cons_succ]
                      go_simp
                      refine hK.out _ _ trivial (fun hHeld => ?_)
                      clear hK K
                      try simp only [List.getElem_toArray, List.getElem_cons_zero, List.getElem_cons_succ, Act.put, List.setIfInBounds_toArray, List.set_cons_zero, List.set_cons_succ]
                      refine wpAnyH_take (i := 14) (v := ?_) rfl (by kernel_rfl) (by kernel_rfl) (by kernel_rfl) (fun _ _ _ h => h) (Or.inl ⟨by rfl, ?_⟩) trivial ?_
                      rotate_left
                      · intro w hSw; first | (go_simp; done) | (go_simp; with_reducible rfl)
                      try simp only [List.getElem_toArray, List.getElem_cons_zero, List.getElem_cons_succ, Act.put, List.setIfInBounds_toArray, List.set_cons_zero, List.set_cons_succ]
                      refine wpAnyH_take (i := 15) (v := ?_) rfl (by kernel_rfl) (by kernel_rfl) (by kernel_rfl) (fun _ _ _ h => h) (Or.inl ⟨by rfl, ?_⟩) trivial ?_
                      rotate_left
                      · intro w hSw; first | (go_simp; done) | (go_simp; with_reducible rfl)
                      try simp only [List.getElem_toArray, List.getElem_cons_zero, List.getElem_cons_succ, Act.put, List.setIfInBounds_toArray, List.set_cons_zero, List.set_cons_succ]
                      refine wpAnyH_take (i := 16) (v := ?_) rfl (by kernel_rfl) (by kernel_rfl) (by kernel_rfl) (fun _ _ _ h => h) (Or.inl ⟨by rfl, ?_⟩) trivial ?_
                      rotate_left
                      · intro w hSw; first | (go_simp; done) | (go_simp; with_reducible rfl)
                      try simp only [List.getElem_toArray, List.getElem_cons_zero, List.getElem_cons_succ, Act.put, List.setIfInBounds_toArray, List.set_cons_zero, List.set_cons_succ]
                      refine wpAnyH_take (i := 17) (v := ?_) rfl (by kernel_rfl) (by kernel_rfl) (by kernel_rfl) (fun _ _ _ h => h) (Or.inl ⟨by rfl, ?_⟩) trivial ?_
                      rotate_left
                      · intro w hSw; first | (go_simp; done) | (go_simp; with_reducible rfl)
                      try simp only [List.getElem_toArray, List.getElem_cons_zero, List.getElem_cons_succ, Act.put, List.setIfInBounds_toArray, List.set_cons_zero, List.set_cons_succ]
                      refine wpAnyH_take (i := 18) (v := ?_) rfl (by kernel_rfl) (by kernel_rfl) (by kernel_rfl) (fun _ _ _ h => h) (Or.inl ⟨by rfl, ?_⟩) trivial ?_
                      rotate_left
                      · intro w hSw; first | (go_simp; done) | (go_simp; with_reducible rfl)
                      try simp only [List.getElem_toArray, List.getElem_cons_zero, List.getElem_cons_succ, Act.put, List.setIfInBounds_toArray, List.set_cons_zero, List.set_cons_succ]
                      refine wpAnyH_take (i := 21) (v := ?_) rfl (by kernel_rfl) (by kernel_rfl) (by kernel_rfl) (fun _ _ _ h => h) (Or.inl ⟨by rfl, ?_⟩) trivial ?_
                      rotate_left
                      · intro w hSw; first | (go_simp; done) | (go_simp; with_reducible rfl)
                      try simp only [List.getElem_toArray, List.getElem_cons_zero, List.getElem_cons_succ, Act.put, List.setIfInBounds_toArray, List.set_cons_zero, List.set_cons_succ]
                      refine wpAnyH_ready (rs := [19, 22]) (by kernel_rfl) (by simp) ?_
                      refine AllReadyH.cons rfl (fun K hK => ?_) (AllReadyH.cons rfl (fun K hK => ?_) AllReadyH.nil)
                      · skip
                        try simp only [List.getElem_toArray, List.getElem_cons_zero, List.getElem_cons_succ]
                        go_simp
                        refine (data w.heap.size idx term whole true D3 dat'.length k3 dat' w9.drew HG9.out (by omega)).mono ?_
                        rintro e w10 ⟨v, rfl, hown, hbel⟩
                        obtain ⟨A10, c10, rfl, _, _, _, hsl, _⟩ := Sl.of_own hown
                        have hs1 := run_string_of (P := Try.prog) w10 27 5 Try.underlying27 Try.underlying5 A10 _ c10 _ hsl 9 Try.underlying9
                        have hs2 := run_string_of (P := Try.prog) w10 27 5 Try.underlying27 Try.underlying5 A8 _ c8 _ (HF9.out.sl.drew.below hbel) 9 Try.underlying9
                        have HF10 := Lib.hid (HF9.out.below (hb := (drew_below w9).trans hbel))
                        clear hown hbel hsl
                        try (go_wp2_with fail)
                        refine hK.out _ _ trivial (fun hHeld => ?_)
                        clear hK K
                        try simp only [List.getElem_toArray, List.getElem_cons_zero, List.getElem_cons_succ, Act.put, List.setIfInBounds_toArray, List.set_cons_zero, List.set_cons_succ]
                        refine wpAnyH_ready (rs := [20, 22]) (by kernel_rfl) (by simp) ?_
                        refine AllReadyH.cons rfl (fun K hK => ?_) (AllReadyH.cons rfl (fun K hK => ?_) AllReadyH.nil)
                        · skip
                          try simp only [List.getElem_toArray, List.getElem_cons_zero, List.getElem_cons_succ]
                          go_simp
                          refine hK.out _ _ trivial (fun hHeld => ?_)
                          clear hK K
                          try simp only [List.getElem_toArray, List.getElem_cons_zero, List.getElem_cons_succ, Act.put, List.setIfInBounds_toArray, List.set_cons_zero, List.set_cons_succ]
                          refine wpAnyH_ready (rs := [22]) (by kernel_rfl) (by simp) ?_
                          refine AllReadyH.cons rfl (fun K hK => ?_) AllReadyH.nil
                          try simp only [List.getElem_toArray, List.getElem_cons_zero, List.getElem_cons_succ]
                          go_simp
                          refine hK.out _ _ trivial (fun hHeld => ?_)
                          clear hK K
                          try simp only [List.getElem_toArray, List.getElem_cons_zero, List.getElem_cons_succ, Act.put, List.setIfInBounds_toArray, List.set_cons_zero, List.set_cons_succ]
                          refine wpAnyH_take (i := 23) (v := ?_) rfl (by kernel_rfl) (by kernel_rfl) (by kernel_rfl) (fun _ _ _ h => h) (Or.inl ⟨by rfl, ?_⟩) trivial ?_
                          rotate_left
                          · intro w hSw; first | (go_simp; done) | (go_simp; with_reducible rfl)
                          try simp only [List.getElem_toArray, List.getElem_cons_zero, List.getElem_cons_succ, Act.put, List.setIfInBounds_toArray, List.set_cons_zero, List.set_cons_succ]
                          refine wpAnyH_take (i := 24) (v := ?_) rfl (by kernel_rfl) (by kernel_rfl) (by kernel_rfl) (fun _ _ _ h => h) (Or.inl ⟨by rfl, ?_⟩) trivial ?_
                          rotate_left
                          · intro w hSw; first | (go_simp; done) | (go_simp; with_reducible rfl)
                          try simp only [List.getElem_toArray, List.getElem_cons_zero, List.getElem_cons_succ, Act.put, List.setIfInBounds_toArray, List.set_cons_zero, List.set_cons_succ]
                          refine wpAnyH_done (by kernel_rfl) ?_ _
                          (go_wp2_with fail; go_meet; exact ⟨rfl, HF10⟩)
                        · skip
                          try simp only [List.getElem_toArray, List.getElem_cons_zero, List.getElem_cons_succ]
                          go_simp
                          refine hK.out _ _ trivial (fun hHeld => ?_)
                          clear hK K
                          try simp only [List.getElem_toArray, List.getElem_cons_zero, List.getElem_cons_succ, Act.put, List.setIfInBounds_toArray, List.set_cons_zero, List.set_cons_succ]
                          refine wpAnyH_ready (rs := [20]) (by kernel_rfl) (by simp) ?_
                          refine AllReadyH.cons rfl (fun K hK => ?_) AllReadyH.nil
                          try simp only [List.getElem_toArray, List.getElem_cons_zero, List.getElem_cons_succ]
                          go_simp
                          refine hK.out _ _ trivial (fun hHeld => ?_)
                          clear hK K
                          try simp only [List.getElem_toArray, List.getElem_cons_zero, List.getElem_cons_succ, Act.put, List.setIfInBounds_toArray, List.set_cons_zero, List.set_cons_succ]
                          refine wpAnyH_take (i := 23) (v := ?_) rfl (by kernel_rfl) (by kernel_rfl) (by kernel_rfl) (fun _ _ _ h => h) (Or.inl ⟨by rfl, ?_⟩) trivial ?_
                          rotate_left
                          · intro w hSw; first | (go_simp; done) | (go_simp; with_reducible rfl)
                          try simp only [List.getElem_toArray, List.getElem_cons_zero, List.getElem_cons_succ, Act.put, List.setIfInBounds_toArray, List.set_cons_zero, List.set_cons_succ]
                          refine wpAnyH_take (i := 24) (v := ?_) rfl (by kernel_rfl) (by kernel_rfl) (by kernel_rfl) (fun _ _ _ h => h) (Or.inl ⟨by rfl, ?_⟩) trivial ?_
                          rotate_left
                          · intro w hSw; first | (go_simp; done) | (go_simp; with_reducible rfl)
                          try simp only [List.getElem_toArray, List.getElem_cons_zero, List.getElem_cons_succ, Act.put, List.setIfInBounds_toArray, List.set_cons_zero, List.set_cons_succ]
                          refine wpAnyH_done (by kernel_rfl) ?_ _
                          (go_wp2_with fail; go_meet; exact ⟨rfl, HF10⟩)
                      · skip
                        try simp only [List.getElem_toArray, List.getElem_cons_zero, List.getElem_cons_succ]
                        go_simp
                        refine hK.out _ _ trivial (fun hHeld => ?_)
                        clear hK K
                        try simp only [List.getElem_toArray, List.getElem_cons_zero, List.getElem_cons_succ, Act.put, List.setIfInBounds_toArray, List.set_cons_zero, List.set_cons_succ]
                        refine wpAnyH_ready (rs := [19]) (by kernel_rfl) (by simp) ?_
                        refine AllReadyH.cons rfl (fun K hK => ?_) AllReadyH.nil
                        try simp only [List.getElem_toArray, List.getElem_cons_zero, List.getElem_cons_succ]
                        go_simp
                        refine (data w.heap.size idx term whole true D3 dat'.length k3 dat' w9.drew HG9.out (by omega)).mono ?_
                        rintro e w10 ⟨v, rfl, hown, hbel⟩
                        obtain ⟨A10, c10, rfl, _, _, _, hsl, _⟩ := Sl.of_own hown
                        have hs1 := run_string_of (P := Try.prog) w10 27 5 Try.underlying27 Try.underlying5 A10 _ c10 _ hsl 9 Try.underlying9
                        have hs2 := run_string_of (P := Try.prog) w10 27 5 Try.underlying27 Try.underlying5 A8 _ c8 _ (HF9.out.sl.drew.below hbel) 9 Try.underlying9
                        have HF10 := Lib.hid (HF9.out.below (hb := (drew_below w9).trans hbel))
                        clear hown hbel hsl
                        try (go_wp2_with fail)
                        refine hK.out _ _ trivial (fun hHeld => ?_)
                        clear hK K
                        try simp only [List.getElem_toArray, List.getElem_cons_zero, List.getElem_cons_succ, Act.put, List.setIfInBounds_toArray, List.set_cons_zero, List.set_cons_succ]
                        refine wpAnyH_ready (rs := [20]) (by kernel_rfl) (by simp) ?_
                        refine AllReadyH.cons rfl (fun K hK => ?_) AllReadyH.nil
                        try simp only [List.getElem_toArray, List.getElem_cons_zero, List.getElem_cons_succ]
                        go_simp
                        refine hK.out _ _ trivial (fun hHeld => ?_)
                        clear hK K
                        try simp only [List.getElem_toArray, List.getElem_cons_zero, List.getElem_cons_succ, Act.put, List.setIfInBounds_toArray, List.set_cons_zero, List.set_cons_succ]
                        refine wpAnyH_take (i := 23) (v := ?_) rfl (by kernel_rfl) (by kernel_rfl) (by kernel_rfl) (fun _ _ _ h => h) (Or.inl ⟨by rfl, ?_⟩) trivial ?_
                        rotate_left
                        · intro w hSw; first | (go_simp; done) | (go_simp; with_reducible rfl)
                        try simp only [List.getElem_toArray, List.getElem_cons_zero, List.getElem_cons_succ, Act.put, List.setIfInBounds_toArray, List.set_cons_zero, List.set_cons_succ]
                        refine wpAnyH_take (i := 24) (v := ?_) rfl (by kernel_rfl) (by kernel_rfl) (by kernel_rfl) (fun _ _ _ h => h) (Or.inl ⟨by rfl, ?_⟩) trivial ?_
                        rotate_left
                        · intro w hSw; first | (go_simp; done) | (go_simp; with_reducible rfl)
                        try simp only [List.getElem_toArray, List.getElem_cons_zero, List.getElem_cons_succ, Act.put, List.setIfInBounds_toArray, List.set_cons_zero, List.set_cons_succ]
                        refine wpAnyH_done (by kernel_rfl) ?_ _
                        (go_wp2_with fail; go_meet; exact ⟨rfl, HF10⟩)
                  case rest =>
                    obtain ⟨rfl, HF11⟩ := hcut
                    have hinv := Lib.hid (HF11.out.inv hlen.out (Nat.le_refl _) (by omega))
                    clear HF9 HF11 HG9 hs0 z2
                    go_wp2_with fail
                    go_roundw
                    case rel => exact ⟨true, A8, _, c8, idx, term, whole, D3, k3, dat', q + 1, rfl, rfl, by go_num, by omega, hinv⟩
                    case measure => simp [intOf]; omega
    · go_wp2_with fail
      refine (drop w.heap.size i t wh is D dat.length k dat wo HI.out.gth).mono ?_
      rintro e w2 ⟨rfl, hg2, hgr⟩
      have HB2 : Hid (Below w.heap.size w w2) := HI.out.bel.grown hgr HI.out.bel.size (fun k hk => by injection hk with hk; omega)
      have HG2 := Lib.hid hg2
      clear hg2 hgr HI
      go_wp2_with fail
      refine (data w.heap.size 0 0 0 false none 0 0 [] w2 HG2.out (by omega)).mono ?_
      rintro e w3 ⟨v, rfl, hown, hbel⟩
      obtain ⟨A3, c3, rfl, _, _, _, _, _⟩ := Sl.of_own hown
      have HB3 : Hid (Below w.heap.size w w3) := HB2.out.trans (hbel.mono HB2.out.size)
      clear hown hbel
      go_wp2
      go_ret
      exact ⟨rfl, HB3.out⟩

end Go.Proofs.Ytkkgnehpokeffaa.Chunk
