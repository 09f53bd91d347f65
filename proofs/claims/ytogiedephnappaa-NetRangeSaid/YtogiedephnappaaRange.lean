/- A range over a function, walked at the wide fence: the law of the statement, for an iterator that may yield what it has made in the round. -/
import Derived.Test.YtogiedephnappaaRows
import Derived.Test.YtogiedephnappaaStands
import Derived.RangeFuncNested
import Derived.RangeFuncBound
import Derived.RangeFuncCalls
import Derived.RangeFuncLeaves
namespace Go.Proofs.Ytogiedephnappaa.Net
open Go.RowKit Go.Proofs.Ytogiedephnappaa.Mem

/-- The blocks from a up to b lie as they lay. -/
structure Kept (a b : Nat) (W W' : World) : Prop where
  size : W.heap.size ≤ W'.heap.size
  same : ∀ r, a ≤ r → r < b → W'.heap[r]? = W.heap[r]?

theorem Kept.refl (a b : Nat) (W : World) : Kept a b W W := ⟨Nat.le_refl _, fun _ _ _ => rfl⟩
theorem Kept.trans {a b : Nat} {A B C : World} (h : Kept a b A B) (k : Kept a b B C) : Kept a b A C := ⟨Nat.le_trans h.size k.size, fun r h1 h2 => (k.same r h1 h2).trans (h.same r h1 h2)⟩
theorem Kept.mono {a b a' b' : Nat} {A B : World} (h : Kept a b A B) (ha : a ≤ a') (hb : b' ≤ b) : Kept a' b' A B := ⟨h.size, fun r h1 h2 => h.same r (Nat.le_trans ha h1) (Nat.lt_of_lt_of_le h2 hb)⟩
theorem Kept.putObj {a b : Nat} (W : World) {l : Nat} (o : Obj) (hl : l < a) : Kept a b W (W.putObj l o) := ⟨by simp, fun r h1 _ => World.putObj_heap_other (by omega)⟩
theorem Kept.kp {a b : Nat} {S : Nat → Prop} {W W' : World} (h : Kp S W W') (hb : b ≤ W.heap.size) (hs : ∀ r, a ≤ r → r < b → ¬ S r) : Kept a b W W' := ⟨h.size, fun r h1 h2 => h.block r (by omega) (hs r h1 h2)⟩
theorem Kept.below {a b B : Nat} {W W' : World} (h : Below B W W') (hb : b ≤ B) : Kept a b W W' := ⟨h.size, fun r _ h2 => h.block r (by omega)⟩

/-- How the body of a round may be left. -/
def roundEnd (B : Nat) (I : Nat → Nat → World → Prop) (Ix : Code → World → Prop) (Q k : Nat) (W : World) : Exit → Act → World → Prop
  | .normal, _, W' => Kept B Q W W' ∧ I Q (k + 1) W'
  | .ret, _, W' => Kept B Q W W' ∧ Ix .ret W'
  | .exit id, _, W' => Kept B Q W W' ∧ Ix (.exit id) W'
  | .goto t, _, W' => Kept B Q W W' ∧ Ix (.goto t) W'
  | .panic _, _, _ => False
  | .outgrown, _, _ => False

theorem range_law {P : Program} {g : Operand} {ps : Array Tmp} {assign body : Code} {Qx : Exit → Act → World → Prop} {a : Act} {w : World}
    {gf : Nat} {lb : Array Value} (hg : a.eval g = .func (.func gf) #[] lb) (eg : ∀ args w, (callFunc gf args).run P w = .ok (.enter gf args) w)
    (N : Nat) (QQ : Nat → Prop) (Arg : Nat → Nat → Array Value → World → Prop) (I : Nat → Nat → World → Prop) (Ix : Code → World → Prop)
    (hI : ∀ Q, OwnFrom w.heap.size (I Q)) (hIx : OwnFrom w.heap.size Ix) (hps : ∀ Q k args W, Arg Q k args W → args.size = ps.size)
    (h0 : ∀ Q W, Below w.heap.size w W → w.heap.size + 2 ≤ Q → Q ≤ W.heap.size → QQ Q → I Q 0 W)
    (hseq : ∀ (l : Nat) (J : Nat → Nat → World → Prop) (Jx : World → Prop) (W : World), Below w.heap.size w W → W.heap.size = w.heap.size + 2 →
      (∀ Q, OwnFrom W.heap.size (J Q)) → OwnFrom W.heap.size (fun (_ : Unit) W => Jx W) → (∀ Q k W1, J Q k W1 → I Q k W1) →
      (∀ Q W1, Below W.heap.size W W1 → W.heap.size ≤ Q → Q ≤ W1.heap.size → QQ Q → J Q 0 W1) →
      (∀ Q k W1, I Q (k + 1) W1 → J Q k W1 → J Q (k + 1) W1) →
      (∀ Q k args W1, W.heap.size ≤ Q → Q ≤ W1.heap.size → QQ Q → k < N → J Q k W1 → Arg Q k args W1 → YieldAt Fence.wide 0 P l args W1 fun e W' =>
        Kept W.heap.size Q W1 W' ∧ ((e = .returned (.bool true) ∧ J Q (k + 1) W') ∨ (e = .returned (.bool false) ∧ Jx W'))) →
      CallsIn Fence.wide 0 P gf (#[.func (.yield l) #[] #[]] ++ lb) W fun e W' => (∃ v, e = .returned v) ∧ ((∃ Q, J Q N W') ∨ Jx W'))
    (Ax : Nat → Nat → Array Value → Act → World → Prop) (hAx : ∀ Q k args a', OwnFrom w.heap.size (fun (_ : Unit) W => Ax Q k args a' W))
    (hassign : ∀ (l Q k : Nat) (args : Array Value) (W : World) (K : Act → World → Prop), w.heap.size + 2 ≤ Q → Q ≤ W.heap.size → QQ Q → k < N → I Q k W → Arg Q k args W →
      (∀ a' W', Kept w.heap.size Q W W' → I Q k W' → Ax Q k args a' W' → K a' W') →
      assign.wpIn (Fence.wide.inRound l) 0 P (Exit.then K (fun _ _ _ => False)) { tmps := (ps.zip args).foldl (fun t (p, v) => t.setIfInBounds p v) a.tmps, defers := [] } W)
    (hbody : ∀ (l Q k : Nat) (args : Array Value) (a' : Act) (W : World), w.heap.size + 2 ≤ Q → Q ≤ W.heap.size → QQ Q → k < N → I Q k W → Ax Q k args a' W →
      body.wpIn (Fence.wide.inRound l) 0 P (roundEnd w.heap.size I Ix Q k W) a' W)
    (hdone : ∀ Q W, I Q N W → W.heap[w.heap.size]? = some (.deferred (some [])) → Qx .normal { a with defers := { target := .collected w.heap.size, args := #[] } :: a.defers } W)
    (hstop : ∀ c W, Ix c W → W.heap[w.heap.size]? = some (.deferred (some [])) → c.wpIn Fence.wide 0 P Qx { a with defers := { target := .collected w.heap.size, args := #[] } :: a.defers } W) :
    (Code.rangeFunc g ps assign body).wpIn Fence.wide 0 P Qx a w := by
  refine wpIn_rangeFunc ?_
  intro fn hfn
  obtain ⟨rec, hrec⟩ : ∃ rec : LoopState → Option Code → Loop, rec = fun st pe => { state := st, pending := pe, fn, tmps := a.tmps, params := ps, assign, body, defers := w.heap.size } := ⟨_, rfl⟩
  obtain ⟨W1, hW1⟩ : ∃ W1, (w.alloc (.deferred (some []))).alloc (.loop (rec .ready none)) = W1 := ⟨_, rfl⟩
  have hL1 : W1.heap[w.heap.size + 1]? = some (.loop (rec .ready none)) := by
    rw [← hW1]; have := World.alloc_heap_new (w.alloc (.deferred (some []))) (.loop (rec .ready none)); rwa [World.size_alloc] at this
  have hK1 : W1.heap[w.heap.size]? = some (.deferred (some [])) := by
    rw [← hW1]; exact (Below.heap_alloc _ _ _ (by simp)).trans (World.alloc_heap_new w _)
  have hb1 : Below w.heap.size w W1 := by
    rw [← hW1]; exact ((Below.refl _ w).alloc (Nat.le_refl _) _).alloc (by simp) _
  have hz1 : W1.heap.size = w.heap.size + 2 := by rw [← hW1]; simp
  refine ⟨w.heap.size + 1, [{ target := .collected w.heap.size, args := #[] }], W1, { target := .fn (.func gf) lb, args := #[.func (.yield (w.heap.size + 1)) #[] #[]] }, W1, gf,
    #[.func (.yield (w.heap.size + 1)) #[] #[]] ++ lb, W1, ?_, ?_, ?_, ?_, ?_, ?_⟩
  · rw [← hW1, hrec]; exact run_enterLoop_outer _ _ _ _ _
  · simp only [resolve, hg]
    simp [go_sem]
  · intro f' _; trivial
  · simp [invoke, go_sem, eg]
  · intro h; simp [Fence.wide] at h
  · have other : ∀ {A B : World} {row : Option Nat} {r : Nat} {o : Obj}, A.grownBy B row → (∀ q, row = some q → W1.heap.size ≤ q ∧ ∃ o : Obj, A.heap[q]? = some o ∧ o.isCells = false) → A.heap[r]? = some o → r < w.heap.size + 2 → B.heap[r]? = some o :=
      fun hgr hr ho hlt => (hgr.block _ (Array.getElem?_eq_some_iff.1 ho).1 (fun e => by have := (hr _ e.symm).1; omega)).trans ho
    have weak : ∀ {A : World} {row : Option Nat}, (∀ q, row = some q → W1.heap.size ≤ q ∧ ∃ o : Obj, A.heap[q]? = some o ∧ o.isCells = false) → ∀ q, row = some q → w.heap.size ≤ q ∧ ∃ o : Obj, A.heap[q]? = some o ∧ o.isCells = false :=
      fun hr q e => ⟨by have := (hr q e).1; omega, (hr q e).2⟩
    refine (hseq (w.heap.size + 1)
      (fun Q k W => I Q k W ∧ W.heap[w.heap.size + 1]? = some (.loop (rec .ready none)) ∧ W.heap[w.heap.size]? = some (.deferred (some [])))
      (fun W => ∃ c, Ix c W ∧ W.heap[w.heap.size + 1]? = some (.loop (rec .done (some c))) ∧ W.heap[w.heap.size]? = some (.deferred (some [])))
      W1 hb1 hz1
      (fun Q s A B row hs hgr hr => ⟨hI Q s A B row hs.1 hgr (weak hr), other hgr hr hs.2.1 (by omega), other hgr hr hs.2.2 (by omega)⟩)
      (fun s A B row hs hgr hr => by
        obtain ⟨c, hc, hl, hk⟩ := hs
        exact ⟨c, hIx c A B row hc hgr (weak hr), other hgr hr hl (by omega), other hgr hr hk (by omega)⟩)
      (fun Q k W hs => hs.1)
      (fun Q W hW hQ hQ2 hqq => ⟨h0 Q W (hb1.trans (hW.mono (by omega))) (by omega) hQ2 hqq, (hW.block _ (by omega)).trans hL1, (hW.block _ (by omega)).trans hK1⟩)
      (fun Q k W hi hs => ⟨hi, hs.2⟩)
      ?_).mono ?_
    · -- one round
      rintro Q k args W hQ hQ2 hqq hkN ⟨hi, hl, hk⟩ harg
      rw [hz1] at hQ ⊢
      have hy := run_yield (P := P) (args := args) hl (by rw [hrec]; exact hps Q k args W harg)
      rw [hrec] at hy
      refine ⟨fn, _, assign, body, hy, roundIn_of_wpIn hfn (hassign _ Q k args W _ (by omega) hQ2 hqq hkN hi harg ?_)⟩
      clear hy
      intro a' Wa hka hia hax
      have hla : Wa.heap[w.heap.size + 1]? = some (.loop (rec .ready none)) := (hka.same _ (by omega) (by omega)).trans hl
      have hda : Wa.heap[w.heap.size]? = some (.deferred (some [])) := (hka.same _ (by omega) (by omega)).trans hk
      have hlt : w.heap.size + 1 < Wa.heap.size := (Array.getElem?_eq_some_iff.1 hla).1
      refine ⟨_, run_beginRound hla (by rw [hrec]), ?_⟩
      have hl2 : (Wa.putObj (w.heap.size + 1) (.loop { rec .ready none with state := .busy })).heap[w.heap.size + 1]? = some (.loop { rec .ready none with state := .busy }) := World.putObj_heap_same hlt
      have hk2 : (Wa.putObj (w.heap.size + 1) (.loop { rec .ready none with state := .busy })).heap[w.heap.size]? = some (.deferred (some [])) := (World.putObj_heap_other (by omega)).trans hda
      have hs2 := hka.size
      refine wpIn_mono (hbody _ Q k args a' _ (by omega) (by simp; omega) hqq hkN ((hI Q).putObj _ hia (by omega) hla rfl) ((hAx Q k args a').putObj (s := ()) _ hax (by omega) hla rfl)) ?_
      have fin : ∀ (jump : Option Code) (W3 : World), Kept w.heap.size Q (Wa.putObj (w.heap.size + 1) (.loop { rec .ready none with state := .busy })) W3 →
          (Instr.endRound (w.heap.size + 1) jump).run P W3 = .ok (.bool jump.isNone) (W3.putObj (w.heap.size + 1) (.loop (rec (if jump.isNone then .ready else .done) jump))) ∧
          W3.heap[w.heap.size + 1]? = some (.loop { rec .ready none with state := .busy }) ∧
          (W3.putObj (w.heap.size + 1) (.loop (rec (if jump.isNone then .ready else .done) jump))).heap[w.heap.size + 1]? = some (.loop (rec (if jump.isNone then .ready else .done) jump)) ∧
          (W3.putObj (w.heap.size + 1) (.loop (rec (if jump.isNone then .ready else .done) jump))).heap[w.heap.size]? = some (.deferred (some [])) ∧
          Kept (w.heap.size + 2) Q W (W3.putObj (w.heap.size + 1) (.loop (rec (if jump.isNone then .ready else .done) jump))) := fun jump W3 hk3 => by
        have hl3 := (hk3.same _ (by omega) (by omega)).trans hl2
        have := run_endRound (P := P) jump hl3
        rw [hrec] at this ⊢
        exact ⟨this, by rw [hrec] at hl3; exact hl3, World.putObj_heap_same (Array.getElem?_eq_some_iff.1 hl3).1, (World.putObj_heap_other (by omega)).trans ((hk3.same _ (Nat.le_refl _) (by omega)).trans hk2),
          (hka.mono (by omega) (Nat.le_refl _)).trans ((Kept.putObj _ _ (by omega)).trans ((hk3.mono (by omega) (Nat.le_refl _)).trans (Kept.putObj _ _ (by omega))))⟩
      rintro e a3 W3 hp
      cases e with
      | normal =>
        obtain ⟨hk3, hi3⟩ := hp
        obtain ⟨hr, hl3, hl4, hk4, hkk⟩ := fin none W3 hk3
        exact ⟨_, _, hr, hkk, .inl ⟨rfl, (hI Q).putObj _ hi3 (by omega) hl3 rfl, hl4, hk4⟩⟩
      | ret =>
        obtain ⟨hk3, hi3⟩ := hp
        obtain ⟨hr, hl3, hl4, hk4, hkk⟩ := fin (some .ret) W3 hk3
        exact ⟨_, _, hr, hkk, .inr ⟨rfl, .ret, hIx.putObj _ hi3 (by omega) hl3 rfl, hl4, hk4⟩⟩
      | exit id =>
        obtain ⟨hk3, hi3⟩ := hp
        obtain ⟨hr, hl3, hl4, hk4, hkk⟩ := fin (some (.exit id)) W3 hk3
        exact ⟨_, _, hr, hkk, .inr ⟨rfl, .exit id, hIx.putObj _ hi3 (by omega) hl3 rfl, hl4, hk4⟩⟩
      | goto t =>
        obtain ⟨hk3, hi3⟩ := hp
        obtain ⟨hr, hl3, hl4, hk4, hkk⟩ := fin (some (.goto t)) W3 hk3
        exact ⟨_, _, hr, hkk, .inr ⟨rfl, .goto t, hIx.putObj _ hi3 (by omega) hl3 rfl, hl4, hk4⟩⟩
      | panic ch => exact hp.elim
      | outgrown => exact hp.elim
    · -- behind the iterator
      rintro e W2 ⟨⟨v, rfl⟩, (⟨Q, hi, hl, hk⟩ | ⟨c, hi, hl, hk⟩)⟩
      · exact ⟨none, _, by have := run_endLoop (P := P) hl (by rw [hrec]; simp); rw [hrec] at this; exact this, hdone Q _ ((hI Q).putObj _ hi (by omega) hl rfl) ((World.putObj_heap_other (by omega)).trans hk)⟩
      · exact ⟨some c, _, by have := run_endLoop (P := P) hl (by rw [hrec]; simp); rw [hrec] at this; exact this, hstop c _ (hIx.putObj _ hi (by omega) hl rfl) ((World.putObj_heap_other (by omega)).trans hk)⟩

end Go.Proofs.Ytogiedephnappaa.Net
