/- The contract of the law's told. -/
import Derived.Test.YtogiedephnappaaTold
namespace Go.Proofs.Ytogiedephnappaa.Net
open Go.RowKit Go.Proofs.Ytogiedephnappaa.Mem
attribute [local go_sem] Oper.semAt_some wide_depth

theorem info3 : (Try.prog.info? 3).map (fun i => (i.zero, i.size, i.bytes)) = some (some (.int .i64 0), 1, 8) := by kernel_rfl

def nums (l : List Nat) : List Value := l.map fun (i : Nat) => .int .i64 (i : Int)

/-- In told's first loop: the list of places so far. -/
structure Tl (w wr : World) (room : Int) (vr : Value) (rl : List Ms) (d : Int) (j : Nat) : Prop where
  below : Below w.heap.size w wr
  b4 : Blk wr w.heap.size 28 #[.int .i64 room, vr]
  b6 : Blk wr (w.heap.size + 1) 4 #[.bool false]
  b7 : ∃ va, Blk wr (w.heap.size + 1 + 1) 83 #[va] ∧ wr.ownsRow (w.heap.size + 3) 3 1 va (ats rl d j).length (nums (ats rl d j))

theorem tl_start (w : World) (room : Int) (vr : Value) (rl : List Ms) (d : Int) : Tl w (((w.alloc (.cells #[.int .i64 room, vr] 28)).alloc (.cells #[.bool false] 4)).alloc (.cells #[.slice none 0 0] 83)) room vr rl d 0 := by
  refine ⟨(((Below.refl _ _).alloc (Nat.le_refl _) _).alloc (by simp) _).alloc (by simp; omega) _, ((Blk.new w 28 _).alloc _).alloc _, ?_, .slice none 0 0, ?_, World.ownsRow_nil _ _ _ _⟩
  · have h := Blk.new (w.alloc (.cells #[.int .i64 room, vr] 28)) 4 #[.bool false]
    have e : (w.alloc (.cells #[.int .i64 room, vr] 28)).heap.size = w.heap.size + 1 := by simp
    rw [e] at h
    exact h.alloc _
  · have h := Blk.new ((w.alloc (.cells #[.int .i64 room, vr] 28)).alloc (.cells #[.bool false] 4)) 83 #[.slice none 0 0]
    have e : ((w.alloc (.cells #[.int .i64 room, vr] 28)).alloc (.cells #[.bool false] 4)).heap.size = w.heap.size + 1 + 1 := by simp
    rw [e] at h
    exact h

theorem Tl.keep {w wr w' : World} {room : Int} {vr : Value} {rl : List Ms} {d : Int} {j : Nat} (h : Tl w wr room vr rl d j) (hb : Below wr.heap.size wr w') : Tl w w' room vr rl d j := by
  obtain ⟨va, h7, ho⟩ := h.b7
  exact ⟨h.below.trans (hb.mono h.below.size), h.b4.below hb, h.b6.below hb, va, h7.below hb, own_kp (S := fun _ => False) ho (Kp.of_below hb _) (fun _ _ e => e)⟩

/-- Between two rounds of told's walk over the messages. -/
structure It (Wq : World) (t10 cnt : Nat) (W : World) : Prop where
  kp : Kp (fun r => r = t10) Wq W
  b10 : Blk W t10 3 #[.int .i64 cnt]

theorem It.own {Wq : World} {t10 : Nat} (ht : t10 < Wq.heap.size) : OwnFrom Wq.heap.size (It Wq t10) := by
  intro cnt W W' row h hg hr
  have hne : ∀ k, k < Wq.heap.size → some k ≠ row := fun k hk e => by have := (hr k e.symm).1; omega
  have hsz := h.kp.size
  exact ⟨⟨hg.os.trans h.kp.os, hg.tape.trans h.kp.tape, hg.output.trans h.kp.output, Nat.le_trans hsz hg.size, fun k hk hn => (hg.block k (by omega) (hne k hk)).trans (h.kp.block k hk hn)⟩, h.b10.keep (hg.block t10 (by omega) (hne t10 ht))⟩

/-- What a round of it is walked from. -/
def Ax35 (T : Array Value) (l : List Ms) (d : Int) (Q k : Nat) (a' : Act) (W : World) : Prop :=
  ∃ x U cu, l[k]? = some x ∧ x.dst = d ∧ W.ownsRow Q 5 1 (.slice U x.raw.length cu) x.raw.length (bcs x.raw) ∧
    a' = { tmps := (((T.setIfInBounds 34 (.int .i64 k)).setIfInBounds 35 (.slice U x.raw.length cu)).setIfInBounds 11 (.int .i64 k)).setIfInBounds 12 (.slice U x.raw.length cu), defers := [] }

set_option maxRecDepth 100000 in
set_option maxHeartbeats 2000000 in
theorem told {b : Nat} (w : World) (g : Nat) (v : Value) (nroom room d : Int) (l rl : List Ms) (A : Option Addr) (c : Nat) (hN : Nt w g v nroom l) (hR : Rf b w (.slice A rl.length c) rl) (hSame : Same l rl)
    (hsh : ∀ x ∈ l, x.raw.length ≤ 140737488351232) (hlen : l.length < 7000000000000) :
    Calls Try.prog 35 #[.pointer (some ⟨g, 0, none⟩), .agg #[.int .i64 room, .slice A rl.length c], .int .i64 d] w fun e w' => e = .returned (.bool true) ∧ Below w.heap.size w w' := by
  obtain ⟨i0, hi, hz0, hz1, hz2⟩ := info_parts info3
  have HN := Lib.hid hN
  have HR := Lib.hid hR
  have HS := Lib.hid hSame
  have HSH := Lib.hid hsh
  have hlr := hSame.len
  have hlr2 : (rl.length : Int) ≤ 7000000000000 := by omega
  have HLR := Lib.hid hlr
  have HSL : Hid (Sl w 2 A rl.length (rl.flatMap Ms.cells)) := by
    obtain ⟨A', c', e, _, _, h⟩ := hR.slice
    injection e with e1 _ _
    subst e1
    exact h
  have HT0 := Lib.hid (tl_start w room (.slice A rl.length c) rl d)
  clear hN hR hSame hsh hlr
  refine (callsIn_wide (n := 0)).1 ?_
  refine callsIn_of_wp_marks Try.func35 rfl trivial ?_ rfl
  refine wpIn_wide.2 ?_
  simp only [Try.ntmps35, List.size_toArray, List.length_cons, List.length_nil, Nat.reduceAdd, Nat.reduceSub, Array.replicate_succ, Array.replicate_zero, List.push_toArray, List.append_toArray, List.nil_append, List.cons_append]
  go_wp2_with fail
  go_loopw [17] (fun v17 wr => ∃ j : Nat, v17 = .int .i64 j ∧ j ≤ rl.length ∧ Hid (Tl w wr room (.slice A rl.length c) rl d j)) (fun v17 _ => rl.length - (intOf v17).toNat)
  case atStart => exact ⟨0, rfl, Nat.zero_le _, HT0⟩
  case round =>
    obtain ⟨j, rfl, hj, HT⟩ := hrel
    clear HT0
    by_cases hjl : j < rl.length
    · obtain ⟨x, hx⟩ : ∃ x, rl[j]? = some x := ⟨_, List.getElem?_eq_getElem hjl⟩
      obtain ⟨C, cc, hv, _, _⟩ := (HR.out.safe x (List.mem_of_getElem? hx)).reads
      obtain ⟨bi, oi, rfl, x0⟩ := (HSL.out.below HT.out.below).at_ (j := j * 2 + 0) (u := .int .i64 x.dst) (by rw [flat_at rl j 0 x hx (by omega)]; rfl)
      obtain ⟨b', o', e', x1⟩ := (HSL.out.below HT.out.below).at_ (j := j * 2 + 1) (u := x.v) (by rw [flat_at rl j 1 x hx (by omega)]; rfl)
      injection e' with e'
      injection e' with e1 e2
      subst e1 e2
      rw [hv] at x1
      rw [Nat.add_zero] at x0
      rw [← Nat.add_assoc] at x1
      have HV := Lib.hid hv
      have HTa := Lib.hid (HT.out.keep ((Below.refl _ wr).alloc (Nat.le_refl _) (.cells #[.int .i64 x.dst, .slice C x.raw.length cc] 37)))
      by_cases hd : x.dst = d
      · have HE := Lib.hid (ats_yes hx hd)
        clear hx hv
        subst hd
        obtain ⟨va, h7, ho⟩ := HT.out.b7
        obtain ⟨D, cD, rfl, _, _, _, _, _⟩ := Sl.of_own ho
        have hal := ats_len rl x.dst j
        have hzz := HT.out.below.size
        have hlt7 := h7.lt
        have HO1 := Lib.hid (fun o => own_kp (S := fun _ => False) (own_kp (S := fun _ => False) ho ((Kp.refl (fun _ => False) wr).alloc (.cells #[.int .i64 x.dst, .slice C x.raw.length cc] 37)) (fun _ _ e => e)) ((Kp.refl (fun _ => False) _).alloc o) (fun _ _ e => e))
        have N4 := Lib.hid (own_ne ho HT.out.b4 (by decide))
        have N6 := Lib.hid (own_ne ho HT.out.b6 (by decide))
        have N7 := Lib.hid (own_ne ho h7 (by decide))
        have L1 := Lib.hid (fun k e => (ho.lt k e).1)
        have c7 : (wr.alloc (.cells #[.int .i64 x.dst, .slice C x.raw.length cc] 37)).cell? ⟨w.heap.size + 1 + 1, 0, none⟩ = some (.slice D (ats rl x.dst j).length cD) := ((h7.alloc _).cell 0).trans rfl
        have H7 := Lib.hid h7
        have HONE : Hid (Sl ((wr.alloc (.cells #[.int .i64 x.dst, .slice C x.raw.length cc] 37)).alloc (.cells #[.int .i64 j] 3)) 1 (some ⟨wr.heap.size + 1, 0, none⟩) 1 [.int .i64 j]) := by
          have h := one_sl (wr.alloc (.cells #[.int .i64 x.dst, .slice C x.raw.length cc] 37)) (.int .i64 (j : Int)) 3
          have e : (wr.alloc (.cells #[.int .i64 x.dst, .slice C x.raw.length cc] 37)).heap.size = wr.heap.size + 1 := by simp
          rw [e] at h
          exact h
        clear ho h7
        go_wp2_with (at_builtin; go_loud (refine wpList_append_sl _ rfl (.tmp 26) (.tmp 28) 83 rfl (w.heap.size + 3) 3 i0 _ 1 8 Try.underlying83 hi hz0 hz1 hz2 rfl (by decide) (.slice D (ats rl x.dst j).length cD) (ats rl x.dst j).length (nums (ats rl x.dst j)) rfl (HO1.out _) (some ⟨_, 0, none⟩) 1 1 [.int .i64 j] rfl HONE.out (by intro z hz; obtain rfl := List.mem_singleton.1 hz; rfl) (by unfold maxLen; omega) (by omega) (by simp; omega) ?_; intro vn w2 hown2 hgrow2 hat2; obtain ⟨D2, cD2, rfl, _, _, _, _, _⟩ := Sl.of_own hown2; have B7 := Lib.hid (((H7.out.alloc _).alloc _).grown hgrow2 N7.out); have c72 : w2.cell? ⟨w.heap.size + 1 + 1, 0, none⟩ = some (.slice D (ats rl x.dst j).length cD) := (B7.out.cell 0).trans rfl; have f72 := B7.out.frozen 0; have B4 := Lib.hid (((HT.out.b4.alloc _).alloc _).grown hgrow2 N4.out); have B6 := Lib.hid (((HT.out.b6.alloc _).alloc _).grown hgrow2 N6.out); have HO2 := Lib.hid hown2; have HB2 : Hid (Below w.heap.size w w2) := ((HT.out.below.alloc hzz _).alloc (by simp; omega) _).grown hgrow2 (by simp; omega) (fun k e => by have := L1.out k e; omega); clear hown2 hgrow2 hat2 HO1 c7))
        have HT2 : Hid (Tl w (w2.setCell ⟨w.heap.size + 1 + 1, 0, none⟩ (.slice D2 ((ats rl x.dst j).length + 1) cD2)) room (.slice (some ⟨bi, oi, none⟩) rl.length c) rl x.dst (j + 1)) := by
          have n7 := own_ne HO2.out B7.out (by decide)
          refine ⟨HB2.out.setCell (by simp; omega) _, B4.out.far (by simp; omega) _, B6.out.far (by simp) _, .slice D2 ((ats rl x.dst j).length + 1) cD2, by simpa using B7.out.set_ 0 (.slice D2 ((ats rl x.dst j).length + 1) cD2), ?_⟩
          rw [HE.out]
          have := own_set HO2.out (p := ⟨w.heap.size + 1 + 1, 0, none⟩) n7 (.slice D2 ((ats rl x.dst j).length + 1) cD2)
          simpa [nums] using this
        clear HO2 B4 B6 B7 HB2
        go_wp2_with fail
        go_roundw
        case rel => exact ⟨j + 1, by go_num, by omega, HT2⟩
        case measure => simp [intOf]; omega
      · have HE := Lib.hid (ats_no hx hd)
        have hd' : (x.dst == d) = false := beq_eq_false_iff_ne.2 hd
        have HT2 : Hid (Tl w (wr.alloc (.cells #[.int .i64 x.dst, .slice C x.raw.length cc] 37)) room (.slice (some ⟨bi, oi, none⟩) rl.length c) rl d (j + 1)) := by
          have h := HTa.out
          exact ⟨h.below, h.b4, h.b6, by rw [HE.out]; exact h.b7⟩
        clear hx hv hd
        go_wp2_with fail
        go_roundw
        case rel => exact ⟨j + 1, by go_num, by omega, HT2⟩
        case measure => simp [intOf]; omega
    · obtain rfl : j = rl.length := by omega
      obtain ⟨wt, rfl⟩ : ∃ wt : World, wt = wr := ⟨_, rfl⟩
      go_wp2_with fail
      refine (to_calls g d _).mono ?_
      rintro e Wq ⟨rfl, hWq⟩
      have HT1 := Lib.hid (HT.out.keep (((((Below.refl _ wt).alloc (Nat.le_refl _) (.cells #[.int .i64 0] 3)).alloc (by simp) (.cells #[.pointer (some ⟨g, 0, none⟩)] 23)).alloc (by simp; omega) (.cells #[.int .i64 d] 3))))
      rw [← hWq] at HT1
      have hzr := HT.out.below.size
      have HBq : Hid (Below wt.heap.size wt Wq) := by
        rw [hWq]
        exact ((((Below.refl _ wt).alloc (Nat.le_refl _) (.cells #[.int .i64 0] 3)).alloc (by simp) (.cells #[.pointer (some ⟨g, 0, none⟩)] 23)).alloc (by simp; omega) (.cells #[.int .i64 d] 3))
      have hzq : Wq.heap.size = wt.heap.size + 3 := by rw [hWq]; simp
      have H10 : Hid (Blk Wq wt.heap.size 3 #[.int .i64 0]) := by
        rw [hWq]; exact ((Blk.new wt 3 _).alloc _).alloc _
      have HB1 : Hid (Wq.cell? ⟨wt.heap.size + 1, 0, none⟩ = some (.pointer (some ⟨g, 0, none⟩))) := by
        rw [hWq]
        have h := Blk.new (wt.alloc (.cells #[.int .i64 0] 3)) 23 #[.pointer (some ⟨g, 0, none⟩)]
        have e : (wt.alloc (.cells #[.int .i64 0] 3)).heap.size = wt.heap.size + 1 := by simp
        rw [e] at h
        exact ((h.alloc _).cell 0).trans rfl
      have HB2 : Hid (Wq.cell? ⟨wt.heap.size + 1 + 1, 0, none⟩ = some (.int .i64 d)) := by
        rw [hWq]
        have h := Blk.new ((wt.alloc (.cells #[.int .i64 0] 3)).alloc (.cells #[.pointer (some ⟨g, 0, none⟩)] 23)) 3 #[.int .i64 d]
        have e : ((wt.alloc (.cells #[.int .i64 0] 3)).alloc (.cells #[.pointer (some ⟨g, 0, none⟩)] 23)).heap.size = wt.heap.size + 1 + 1 := by simp
        rw [e] at h
        exact (h.cell 0).trans rfl
      obtain ⟨va, h7, ho⟩ := HT.out.b7
      obtain ⟨D, cD, rfl, _, _, _, _, _⟩ := Sl.of_own ho
      have hal := ats_len rl d rl.length
      have H7 := Lib.hid (h7.below HBq.out)
      have HO7 := Lib.hid (own_kp (S := fun _ => False) ho (Kp.of_below HBq.out _) (fun _ _ e => e))
      have N10 : Hid (∀ k, (Value.slice D (ats rl d rl.length).length cD).ownBlock = some k → k ≠ wt.heap.size) := fun k e => by have := (ho.lt k e).2; omega
      have h7lt := h7.lt
      have HBw := Lib.hid HT1.out.below
      have H4 := Lib.hid HT1.out.b4
      have H6 := Lib.hid HT1.out.b6
      have HNq : Hid (Nt Wq g v nroom l) := HN.out.below HT1.out.below
      have hll := HLR.out
      clear h7 ho HT HT1 hWq
      go_wp2_with fail
      refine (wpIn_wide (n := 0)).1 ?_
      refine range_law (a := { tmps := ?T, defers := [] }) (gf := 24) (lb := #[.pointer (some ⟨wt.heap.size + 1, 0, none⟩), .pointer (some ⟨wt.heap.size + 1 + 1, 0, none⟩)]) ?hg (Go.Proofs.enters_of Try.func24 (by kernel_rfl) rfl) l.length (fun _ => True)
        (fun Q k args W => ∃ x U cu, l[k]? = some x ∧ x.dst = d ∧ W.ownsRow Q 5 1 (.slice U x.raw.length cu) x.raw.length (bcs x.raw) ∧ args = #[.int .i64 k, .slice U x.raw.length cu])
        (fun _ k W => It Wq wt.heap.size (ats rl d k).length W) (fun _ _ => False) ?hI ?hIx ?hps ?h0 ?hseq
        (fun Q k _ a' W => Ax35 ?T l d Q k a' W) ?hAx ?hassign ?hbody ?hdone ?hstop
      case hg => rfl
      case hI =>
        intro Q s W W' row hs hg hr
        exact It.own (by omega) _ W W' row hs hg hr
      case hIx =>
        intro cd W W' row hs hg hr
        exact hs.elim
      case hps =>
        rintro Q k args W ⟨x, U, cu, _, _, _, rfl⟩
        rfl
      case h0 =>
        intro Q W hb hQ hQ2 _
        exact ⟨Kp.of_below hb _, H10.out.below hb⟩
      case hseq =>
        intro l2 J Jx W hbW hzW hJo hJxo hJI h02 hstep hY2
        refine (to1 l2 (wt.heap.size + 1) (wt.heap.size + 1 + 1) g v nroom d l J Jx W ?c1 (HNq.out.below hbW) hlen HSH.out hJo hJxo ?hto ?hraw ?g0 ?hskip ?hY).mono (fun e W' h => h)
        case c1 => exact (hbW.cell (p := ⟨_, 0, none⟩) (block_lt HB1.out)).trans HB1.out
        case hto =>
          intro Q k W' hj
          exact (cell_of_same (p := ⟨_, 0, none⟩) ((hJI Q k W' hj).kp.block _ (block_lt HB2.out) (by simp; omega))).trans HB2.out
        case hraw =>
          intro Q k W' hj x hx
          exact Ms.Lies.kp (HNq.out.msg x hx) (hJI Q k W' hj).kp (fun q hq e => own_ne (HNq.out.msg x hx) H10.out (by decide) (e ▸ hq))
        case g0 =>
          intro Q W1 hb hQ hQ2
          exact h02 Q W1 hb hQ hQ2 trivial
        case hskip =>
          intro Q k x W1 hx hd hj
          obtain ⟨y, hy, h1, _⟩ := HS.out.get hx
          refine hstep Q k W1 ?_ hj
          have hi := hJI Q k W1 hj
          show It Wq wt.heap.size (ats rl d (k + 1)).length W1
          rw [ats_no hy (by rw [h1]; exact hd)]
          exact hi
        case hY =>
          intro Q k x W1 U cu hQ hQ2 hx hd hj hown
          exact hY2 Q k _ W1 hQ hQ2 trivial (List.getElem?_eq_some_iff.1 hx).1 hj ⟨x, U, cu, hx, hd, hown, rfl⟩
      case hAx =>
        rintro Q k args a' s W W' row ⟨x, U, cu, hx, hd, hown, rfl⟩ hg hr
        exact ⟨x, U, cu, hx, hd, own_grown hown hg hr, rfl⟩
      case hassign =>
        rintro l2 Q k args W K hQ1 hQ2 _ hk hi ⟨x, U, cu, hx, hd, hown, rfl⟩ hK
        have HK := Lib.hid hK
        have HI := Lib.hid hi
        have HX := Lib.hid hx
        have HD := Lib.hid hd
        have HO := Lib.hid hown
        clear hK hi hx hd hown
        gi_wp2
        exact HK.out _ _ (Kept.refl _ _ _) HI.out ⟨x, U, cu, HX.out, HD.out, HO.out, rfl⟩
      case hdone =>
        intro Q W hi hD
        have hcnt : ats rl d l.length = ats rl d rl.length := by rw [hll]
        rw [hcnt] at hi
        have p10 : W.cell? ⟨wt.heap.size, 0, none⟩ = some (.int .i64 (ats rl d rl.length).length) := (hi.b10.cell 0).trans rfl
        have B7 := Blk.kp H7.out hi.kp (by omega)
        have B6 := Blk.kp H6.out hi.kp (by omega)
        have p7 : W.cell? ⟨w.heap.size + 1 + 1, 0, none⟩ = some (.slice D (ats rl d rl.length).length cD) := (B7.cell 0).trans rfl
        have f6 := B6.frozen 0
        have c6 : W.cell? ⟨w.heap.size + 1, 0, none⟩ = some (.bool false) := (B6.cell 0).trans rfl
        have HBW : Hid (Below w.heap.size w W) := hi.kp.out HBw.out (fun k e => by omega) (by omega)
        have HD := Lib.hid hD
        have HB6 := Lib.hid B6
        clear hi B7 B6 hD
        go_wp2
        have hset : (W.setCell ⟨w.heap.size + 1, 0, none⟩ (.bool true)).heap[Wq.heap.size]? = some (.deferred (some [])) := (Below.heap_setCell W ⟨w.heap.size + 1, 0, none⟩ _ _ (by simp; omega)).trans HD.out
        have HBF : Below w.heap.size w ((W.setCell ⟨w.heap.size + 1, 0, none⟩ (.bool true)).putObj Wq.heap.size (.deferred none)) :=
          (HBW.out.setCell (by simp) _).grown (grownBy_putObj' _ _ _) (by have := HBW.out.size; simpa [World.setCell] using this) (fun k e => by cases e; omega)
        have hc : ((W.setCell ⟨w.heap.size + 1, 0, none⟩ (.bool true)).putObj Wq.heap.size (.deferred none)).cell? ⟨w.heap.size + 1, 0, none⟩ = some (.bool true) := by
          refine (cell_of_same (p := ⟨w.heap.size + 1, 0, none⟩) (World.putObj_heap_other (by simp; omega))).trans ?_
          have h := HB6.out.set_ 0 (.bool true)
          exact (h.cell 0).trans rfl
        refine ⟨by simp, .inl ⟨_, _, rfl, run_takeDeferred hset, ?_⟩⟩
        exact ⟨.bool true, by simp [results, Try.results35, go_sem, hc], rfl, HBF⟩
      case hstop =>
        intro cd W h
        exact h.elim
      case hbody =>
        rintro l2 Q k args a' W hQ1 hQ2 _ hk hi ⟨x, U, cu, hx, hd, hown, rfl⟩
        simp only [List.setIfInBounds_toArray, List.set_cons_zero, List.set_cons_succ]
        obtain ⟨y, hy, h1, h2⟩ := HS.out.get hx
        have hat := ats_at hy (h1.trans hd) (n := rl.length) (by omega)
        have HE : Hid ((ats rl d (k + 1)).length = (ats rl d k).length + 1) := by
          show _ = _
          rw [ats_yes hy (h1.trans hd), List.length_append]
          rfl
        have hlt : (ats rl d k).length < (ats rl d rl.length).length := (List.getElem?_eq_some_iff.1 hat).1
        have HBW : Hid (Below w.heap.size w W) := hi.kp.out HBw.out (fun k e => by omega) (by omega)
        have HOW := own_kp HO7.out hi.kp (fun q hq e => N10.out q hq e)
        obtain ⟨D', c', eD, _, _, _, hslD, _⟩ := Sl.of_own HOW
        injection eD with eD1 eD2 eD3
        subst eD1 eD3
        obtain ⟨rb, ro, rfl, prow⟩ := hslD.at_ (j := (ats rl d k).length) (u := .int .i64 k) (by simp [nums, hat])
        obtain ⟨C, cc, hv, hcs, _⟩ := ((HR.out.safe y (List.mem_of_getElem? hy)).below HBW.out).reads
        obtain ⟨bi, oi, rfl, x1⟩ := (HSL.out.below HBW.out).at_ (j := k * 2 + 1) (u := y.v) (by rw [flat_at rl k 1 y hy (by omega)]; rfl)
        rw [hv, h2] at x1
        rw [h2] at hcs
        rw [← Nat.add_assoc] at x1
        have p10 : W.cell? ⟨wt.heap.size, 0, none⟩ = some (.int .i64 (ats rl d k).length) := (hi.b10.cell 0).trans rfl
        have p7 : W.cell? ⟨w.heap.size + 1 + 1, 0, none⟩ = some (.slice (some ⟨rb, ro, none⟩) (ats rl d rl.length).length cD) := ((Blk.kp H7.out hi.kp (by omega)).cell 0).trans rfl
        have p4 : W.cell? ⟨w.heap.size, 1, none⟩ = some (.slice (some ⟨bi, oi, none⟩) rl.length c) := ((Blk.kp H4.out hi.kp (by omega)).cell 1).trans rfl
        have hslU : Sl W 1 U x.raw.length (bcs x.raw) := by
          obtain ⟨A', c', e, _, _, _, h, _⟩ := Sl.of_own hown
          injection e with e1 _ _
          subst e1
          exact h
        have hs1 := fun j => run_string_of (P := Try.prog) (W.drewN j) 35 5 Try.underlying35 Try.underlying5 U _ cu _ (hslU.drewN j) 9 Try.underlying9
        have hs2 := fun j => run_string_of (P := Try.prog) (W.drewN j) 35 5 Try.underlying35 Try.underlying5 C _ cc _ (hcs.drewN j) 9 Try.underlying9
        have HBY := Lib.hid (Byt.of_own hown)
        have hxs : x.raw.length ≤ 140737488351232 := HSH.out x (List.mem_of_getElem? hx)
        have HI := Lib.hid hi
        have hli : ((ats rl d k).length : Int) < ((ats rl d rl.length).length : Int) := by omega
        have hki : (k : Int) < (rl.length : Int) := by omega
        generalize (ats rl d k).length = q at *
        generalize (ats rl d rl.length).length = na at *
        have hdec : decide (na ≤ q) = false := decide_eq_false (by omega)
        clear hx hd hown hy h1 h2 hat HOW hslD hv hcs hslU hi hlt
        gi_wp2
        refine quiet_round (by kernel_rfl) (by kernel_rfl) (by kernel_rfl) ?_
        repeat (quiet_step (fail))
        refine wpQuiet_nil ?_
        intro _ hw'
        obtain ⟨nq, hw''⟩ := hw'
        subst hw''
        gi_wp2
        gi_loopw [13, 62] (fun _ v62 wq => ∃ j : Nat, v62 = .int .i64 j ∧ j ≤ x.raw.length ∧ Hid (Kp (fun r => U.map (·.block) = some r) W wq ∧ ∀ ub, U = some ⟨ub, 0, none⟩ → Byt wq ub x.raw.length)) (fun _ v62 _ => x.raw.length - (intOf v62).toNat)
        case atStart =>
          refine ⟨0, rfl, Nat.zero_le _, (Kp.refl _ _).drewN nq, fun ub e => ?_⟩
          rcases HBY.out with ⟨h, _⟩ | ⟨ub', h, _, _, hb⟩
          · rw [e] at h; cases h
          · rw [e] at h
            injection h with h
            injection h with h _ _
            subst h
            exact hb
        case round =>
          obtain ⟨j, rfl, hj, HL⟩ := hrel
          by_cases hlt : j < x.raw.length
          · rcases HBY.out with ⟨_, h0⟩ | ⟨ub, rfl, hub1, hub2, _⟩
            · omega
            · have hby := HL.out.2 ub rfl
              obtain ⟨z, hz⟩ := hby.cell hlt
              have hfz := hby.frozen j
              have HBY2 := Lib.hid hby
              clear hby
              gi_wp2
              go_roundw
              case rel =>
                exact ⟨j + 1, by simp, by omega, HL.out.1.set (p := ⟨ub, j, none⟩) (.inl rfl) _, fun ub' e => by
                  injection e with e
                  injection e with e _ _
                  subst e
                  exact HBY2.out.set_ j _⟩
              case measure => simp [intOf]; omega
          · obtain rfl : j = x.raw.length := by omega
            have hns : ∀ r, r < Q → ¬ (U.map (·.block) = some r) := by
              intro r hr e
              rcases HBY.out with ⟨h, _⟩ | ⟨ub, h, hub1, _⟩
              · rw [h] at e; cases e
              · rw [h] at e
                injection e with e
                change ub = r at e
                omega
            have B10 := Blk.kp HI.out.b10 HL.out.1 (hns _ (by omega))
            have c10 : wr.cell? ⟨wt.heap.size, 0, none⟩ = some (.int .i64 q) := (B10.cell 0).trans rfl
            have f10 := B10.frozen 0
            have HB10 := Lib.hid B10
            have HNS := Lib.hid hns
            have hsz := HL.out.1.size
            clear B10 hns
            gi_wp2
            have hk' : Kp (fun r => U.map (·.block) = some r ∨ r = wt.heap.size) W (wr.setCell ⟨wt.heap.size, 0, none⟩ (.int .i64 ((q : Int) + 1))) :=
              (HL.out.1.trans (Kp.refl (fun _ => False) _) (fun _ _ e => e.elim) |> fun h => (⟨h.os, h.tape, h.output, h.size, fun r hr hn => h.block r hr (fun e => hn (.inl e))⟩ : Kp (fun r => U.map (·.block) = some r ∨ r = wt.heap.size) W wr)).set (p := ⟨wt.heap.size, 0, none⟩) (.inl (.inr rfl)) _
            refine ⟨Kept.kp hk' hQ2 (fun r h1 h2 e => ?_), ⟨HI.out.kp.trans hk' (fun r hr e => ?_), ?_⟩⟩
            · rcases e with e | e
              · exact HNS.out r h2 e
              · omega
            · rcases e with e | e
              · exact absurd e (HNS.out r (by omega))
              · exact e
            · rw [HE.out]
              have h := HB10.out.set_ 0 (.int .i64 ((q : Int) + 1))
              simpa using h

end Go.Proofs.Ytogiedephnappaa.Net
