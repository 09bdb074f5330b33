import Derived.Test.YthjjpmoifgcepaaGreatJhTreeL
/-
  Contract: tree.Path, for a tree of the root alone: a new slice of one number, 1. No condition.
-/
namespace Go.Proofs.YthjjpmoifgcepaaGreat.Jt
open Go.RowKit Go.Shelf
attribute [local go_sem] Oper.semAt_some
section
variable {W w : World} {m : List (Nat × Obj)} {b : Nat} {o o' : Obj}
theorem own_put (h : Own W ((b, o) :: m) w) : Own W ((b, o') :: m) (w.putObj b o') := by
  have hge := h.ge (List.mem_cons_self)
  have hlt := h.lt (List.mem_cons_self)
  refine ⟨⟨h.below.os, h.below.tape, h.below.output, by simpa using h.below.size, fun c hc => (World.putObj_heap_other (by omega)).trans (h.below.block c hc)⟩, fun p hm => ?_, h.nd⟩
  rcases List.mem_cons.1 hm with rfl | hm
  · exact ⟨hge, World.putObj_heap_same hlt⟩
  · have hne : p.1 ≠ b := h.ne (b' := p.1) (o' := p.2) hm
    exact ⟨(h.at_ p (List.mem_cons_of_mem _ hm)).1, (World.putObj_heap_other hne).trans (h.at_ p (List.mem_cons_of_mem _ hm)).2⟩
end
/-- what the loop's rounds come to: one number in a block of its own, and the loop's blocks -/
def OneRow (fn : FuncId) (sv : Value) (Bs l D : Nat) (m m' : List (Nat × Obj)) : Prop := ∃ g cap cur, cur.toList.take 1 = [.int .i64 1] ∧ cur.size = cap ∧ 1 ≤ cap ∧ cap ≤ maxLen ∧
  m' = (g, .cells cur 3) :: (l, .loop (AnyZI.apRec ren fn sv Bs D .ready none)) :: (D, .deferred (some [])) :: (Bs, .cells #[.slice (some ⟨g, 0, none⟩) 1 cap] 22) :: m
theorem oneRow_of {fn : FuncId} {sv : Value} {Bs l D : Nat} {w W' : World} (hBl : Bs ≠ l) (hDl : D ≠ l) (hDB : D ≠ Bs) (h0 : w.heap.size ≤ Bs) (h1 : w.heap.size ≤ l) (h2 : w.heap.size ≤ D) (h : AnyZI.ApAt ren w fn sv Bs l D [1] W') :
    ∃ g cap cur, cur.toList.take 1 = [.int .i64 1] ∧ cur.size = cap ∧ 1 ≤ cap ∧ cap ≤ maxLen ∧ Own w [(g, .cells cur 3), (l, .loop (AnyZI.apRec ren fn sv Bs D .ready none)), (D, .deferred (some [])), (Bs, .cells #[.slice (some ⟨g, 0, none⟩) 1 cap] 22)] W' := by
  obtain ⟨v, hv, hrow, hnil⟩ := h.box
  rcases hrow.2 with ⟨rfl, _⟩ | ⟨g, cap, cur, rfl, hge, hg, hk1, hk2, hk3, hk4⟩
  · exact absurd (hnil.1 rfl) (by simp)
  · have n1 : g ≠ l := fun e => by subst e; rw [h.L] at hg; cases hg
    have n2 : g ≠ D := fun e => by subst e; rw [h.K] at hg; cases hg
    have n3 : g ≠ Bs := fun e => by
      subst e
      rw [hv] at hg
      have := (Obj.cells.inj (Option.some.inj hg)).2.1
      exact absurd this (by decide)
    refine ⟨g, cap, cur, by simpa [encZ] using hk4, by simpa using hk3, hk1, hk2, ⟨h.below, fun p hp => ?_, by simp [n1, n2, n3, hBl, hBl.symm, hDl, hDl.symm, hDB]⟩⟩
    simp only [List.mem_cons, List.not_mem_nil, or_false] at hp
    rcases hp with rfl | rfl | rfl | rfl
    · exact ⟨hge, hg⟩
    · exact ⟨h1, h.L⟩
    · exact ⟨h2, h.K⟩
    · exact ⟨h0, hv⟩
section
variable {W w : World} {m : List (Nat × Obj)} {Bg Bt T G c : Nat} {ct cg : Array Value}
set_option maxRecDepth 100000 in
set_option maxHeartbeats 2000000 in
theorem appendSeq_root (hc : 1 ≤ c) (hct : ct[0]? = some (.slice (some ⟨G, 0, none⟩) 1 c)) (hcg : cg[0]? = some (.int .i64 0)) (h : Own W (itB Bg Bt T G ct cg 1 ++ m) w) :
    CallsIn Fence.wide 8 Tryz.prog 124 #[.slice none 0 0, .func (.func 125) #[] #[.pointer (some ⟨Bt, 0, none⟩), .pointer (some ⟨Bg, 0, none⟩)]] w fun e w' => ∃ g cap cur, e = .returned (.slice (some ⟨g, 0, none⟩) 1 cap) ∧ cur.toList.take 1 = [.int .i64 1] ∧ cur.size = cap ∧ 1 ≤ cap ∧ cap ≤ maxLen ∧ Own W ((g, .cells cur 3) :: (itB Bg Bt T G ct cg 0 ++ m)) w' := by
  refine callsIn_of_wp_marks Tryz.func124 rfl trivial ?_ rfl
  simp only [Tryz.ntmps124, List.size_toArray, List.length_cons, List.length_nil, Nat.reduceAdd, Nat.reduceSub, Array.replicate_succ, Array.replicate_zero, List.push_toArray, List.append_toArray, List.nil_append, List.cons_append]
  gi_wp2
  refine wpIn_rangeFunc ?_
  intro fn hfn
  obtain ⟨sv, hsv⟩ : ∃ sv, Value.func (.func 125) #[] #[.pointer (some ⟨Bt, 0, none⟩), .pointer (some ⟨Bg, 0, none⟩)] = sv := ⟨_, rfl⟩
  obtain ⟨W0, hW0⟩ : ∃ W0, w.alloc (.cells #[.slice none 0 0] 22) = W0 := ⟨_, rfl⟩
  have hs0 : W0.heap.size = w.heap.size + 1 := by rw [← hW0]; simp
  have hv0 : W0.heap[w.heap.size]? = some (.cells #[.slice none 0 0] 22 (0, 0)) := by rw [← hW0]; exact World.alloc_heap_new w _
  have hb0 : Below w.heap.size w W0 := by rw [← hW0]; exact (Below.refl _ w).alloc (Nat.le_refl _) _
  rw [hW0]
  obtain ⟨W1, hW1⟩ : ∃ W1, (W0.alloc (.deferred (some []))).alloc (.loop (AnyZI.apRec ren fn sv w.heap.size W0.heap.size .ready none)) = W1 := ⟨_, rfl⟩
  have hold : ∀ k, k < W0.heap.size → W1.heap[k]? = W0.heap[k]? := fun k hk => by
    rw [← hW1]; exact (Below.heap_alloc _ _ k (by simp; omega)).trans (Below.heap_alloc _ _ k hk)
  have hb1 : Below w.heap.size w W1 := by rw [← hW1]; exact (hb0.alloc hb0.size _).alloc (by have := hb0.size; simp; omega) _
  have hs1 : W1.heap.size = W0.heap.size + 2 := by rw [← hW1]; simp
  have hM : AnyZI.ApAt ren w fn sv w.heap.size (W0.heap.size + 1) W0.heap.size [] W1 :=
    ⟨⟨_, (hold w.heap.size (by omega)).trans hv0, ⟨rfl, .inl ⟨rfl, rfl⟩⟩, by simp⟩,
     by rw [← hW1]; have := World.alloc_heap_new (W0.alloc (.deferred (some []))) (.loop (AnyZI.apRec ren fn sv w.heap.size W0.heap.size .ready none)); rwa [World.size_alloc] at this,
     by rw [← hW1]; exact (Below.heap_alloc _ _ _ (by simp)).trans (World.alloc_heap_new W0 _), hb1⟩
  have hO1 : Own W (itB Bg Bt T G ct cg 1 ++ m) W1 := h.then_below hb1
  refine ⟨W0.heap.size + 1, [{ target := .collected W0.heap.size, args := #[] }], W1, { target := .fn (.func 125) #[.pointer (some ⟨Bt, 0, none⟩), .pointer (some ⟨Bg, 0, none⟩)], args := #[.func (.yield (W0.heap.size + 1)) #[] #[]] }, W1, 125,
    #[.func (.yield (W0.heap.size + 1)) #[] #[], .pointer (some ⟨Bt, 0, none⟩), .pointer (some ⟨Bg, 0, none⟩)], W1, ?_, ?_, ?_, ?_, fun _ => by omega, ?_⟩
  · rw [← hW1, ← hsv]; exact run_enterLoop_outer _ _ _ _ _
  · simp [resolve, go_sem]
  · intro f' hf'; trivial
  · simp [invoke, go_sem, enters_of Tryz.func125 (by kernel_rfl) rfl]
  · refine (up1_root 7 (by omega) (W0.heap.size + 1) Bg Bt T G c hc hct hcg (OneRow fn sv w.heap.size (W0.heap.size + 1) W0.heap.size m) hO1 fun w1 h1 => ?_).mono ?_
    · have hM1 : AnyZI.ApAt ren w fn sv w.heap.size (W0.heap.size + 1) W0.heap.size [] w1 := by
        obtain ⟨v, hv, hr, hn⟩ := hM.box
        have hv' : v = .slice none 0 0 := hn.2 rfl
        subst hv'
        refine ⟨⟨_, (h1.below.block _ (by omega)).trans hv, ⟨rfl, .inl ⟨rfl, rfl⟩⟩, by simp⟩, (h1.below.block _ (by omega)).trans hM.L, (h1.below.block _ (by omega)).trans hM.K, hM.below.trans (h1.below.mono (by omega))⟩
      obtain ⟨f1, t1, a1, b1, y1, y2⟩ := AnyZI.apYield lays11 Fence.wide (7 - 1) w fn hfn sv w.heap.size (W0.heap.size + 1) W0.heap.size (by omega) (by omega) (by omega) (Nat.le_refl _) (by omega) 1 (by unfold maxLen; omega) (by omega) [] 1 w1 hM1 (by simp)
      refine ⟨f1, t1, a1, b1, y1, y2.mono ?_⟩
      rintro e w2 ⟨rfl, hA, -⟩
      obtain ⟨g, cap, cur, k1, k2, k3, k4, hO⟩ := oneRow_of (by omega) (by omega) (by omega) (Nat.le_refl _) (by omega) (by omega) hA
      refine ⟨rfl, _, ⟨g, cap, cur, k1, k2, k3, k4, rfl⟩, ?_⟩
      exact (h.join hO).perm (perm_swap _ _ _)
    · rintro e W2 ⟨⟨v0, rfl⟩, m', ⟨g, cap, cur, k1, k2, k3, k4, rfl⟩, h2⟩
      have h3 : Own W ((W0.heap.size + 1, .loop (AnyZI.apRec ren fn sv w.heap.size W0.heap.size .ready none)) :: ((itB Bg Bt T G ct cg 0 ++ [(g, .cells cur 3)]) ++ (W0.heap.size, .deferred (some [])) :: (w.heap.size, .cells #[.slice (some ⟨g, 0, none⟩) 1 cap] 22) :: m)) W2 := Own.perm (m := (itB Bg Bt T G ct cg 0 ++ [(g, .cells cur 3)]) ++ (W0.heap.size + 1, .loop (AnyZI.apRec ren fn sv w.heap.size W0.heap.size .ready none)) :: (W0.heap.size, .deferred (some [])) :: (w.heap.size, .cells #[.slice (some ⟨g, 0, none⟩) 1 cap] 22) :: m) h2 List.perm_middle
      have hend := run_endLoop (P := Tryz.prog) (h3.get List.mem_cons_self) (by simp [AnyZI.apRec])
      have h4 := (own_put (o' := .loop { AnyZI.apRec ren fn sv w.heap.size W0.heap.size .ready none with state := .exhausted }) h3).skip
      obtain ⟨W3, hW3⟩ : ∃ W3, W2.putObj (W0.heap.size + 1) (.loop { AnyZI.apRec ren fn sv w.heap.size W0.heap.size .ready none with state := .exhausted }) = W3 := ⟨_, rfl⟩
      rw [hW3] at hend h4
      clear hW3
      have h5 := h4.perm List.perm_middle
      have hK3 := h5.get List.mem_cons_self
      have hc3 := h5.cell (List.mem_cons_of_mem _ (List.mem_append_right _ List.mem_cons_self)) 0
      have h6 := (own_put (o' := .deferred none) h5).skip
      have h7 : Own W ((g, .cells cur 3) :: (itB Bg Bt T G ct cg 0 ++ (w.heap.size, .cells #[.slice (some ⟨g, 0, none⟩) 1 cap] 22) :: m)) (W3.putObj W0.heap.size (.deferred none)) := Own.perm (m := itB Bg Bt T G ct cg 0 ++ (g, .cells cur 3) :: (w.heap.size, .cells #[.slice (some ⟨g, 0, none⟩) 1 cap] 22) :: m) h6 List.perm_middle
      have h8 : Own W ((g, .cells cur 3) :: (itB Bg Bt T G ct cg 0 ++ m)) (W3.putObj W0.heap.size (.deferred none)) := Own.drop1 (m1 := (g, .cells cur 3) :: itB Bg Bt T G ct cg 0) h7
      simp at hc3
      rw [← hsv] at hend
      refine ⟨none, W3, hend, ?_⟩
      gi_wp2
      rw [← hs0]
      refine ⟨by simp, .inl ⟨_, _, rfl, run_takeDeferred hK3, ?_⟩⟩
      exact ⟨_, results_tmp rfl _ _ _, g, cap, cur, rfl, k1, k2, k3, k4, h8⟩
set_option maxHeartbeats 1000000 in
theorem collect_root (hc : 1 ≤ c) (hct : ct[0]? = some (.slice (some ⟨G, 0, none⟩) 1 c)) (hcg : cg[0]? = some (.int .i64 0)) (h : Own W (itB Bg Bt T G ct cg 1 ++ m) w) :
    CallsIn Fence.wide 9 Tryz.prog 106 #[.func (.func 125) #[] #[.pointer (some ⟨Bt, 0, none⟩), .pointer (some ⟨Bg, 0, none⟩)]] w fun e w' => ∃ g cap cur, e = .returned (.slice (some ⟨g, 0, none⟩) 1 cap) ∧ cur.toList.take 1 = [.int .i64 1] ∧ cur.size = cap ∧ 1 ≤ cap ∧ cap ≤ maxLen ∧ Own W ((g, .cells cur 3) :: (itB Bg Bt T G ct cg 0 ++ m)) w' := by
  refine callsIn_of_wp Tryz.func106 rfl trivial ?_ rfl
  simp only [Tryz.ntmps106, List.size_toArray, List.length_cons, List.length_nil, Nat.reduceAdd, Nat.reduceSub, Array.replicate_succ, Array.replicate_zero, List.push_toArray, List.append_toArray, List.nil_append, List.cons_append]
  have hf : Fence.wide.fn 124 := trivial
  gi_wp2_with (gi_at_call 124; refine (appendSeq_root hc hct hcg h).mono ?_; rintro e w' ⟨g, cap, cur, rfl, k1, k2, k3, k4, h1⟩)
  go_ret
  exact ⟨g, cap, cur, rfl, k1, k2, k3, k4, h1⟩
end
attribute [local go_sem ↓] Go.wp_at_zero Go.wp_at_succ
/-- PATH, of the root alone -/
theorem path_root {W w : World} {m : List (Nat × Obj)} {T G c : Nat} {ct cg : Array Value} (hc : 1 ≤ c) (hct : ct[0]? = some (.slice (some ⟨G, 0, none⟩) 1 c)) (hcg : cg[0]? = some (.int .i64 0)) (h : Own W ((T, .cells ct 157) :: (G, .cells cg 154) :: m) w) :
    Calls Tryz.prog 92 #[.pointer (some ⟨T, 0, none⟩), .int .i64 1] w fun e w' => ∃ g cap cur, e = .returned (.slice (some ⟨g, 0, none⟩) 1 cap) ∧ cur.toList.take 1 = [.int .i64 1] ∧ cur.size = cap ∧ 1 ≤ cap ∧ cap ≤ maxLen ∧ Own W ((g, .cells cur 3) :: (T, .cells ct 157) :: (G, .cells cg 154) :: m) w' := by
  go_enter Tryz.func92, Tryz.ntmps92
  go_wp2_with (first | (go_at_call 107; refine (up_spec h 1).mono ?_; rintro e w1 ⟨b1, b2, rfl, h1⟩) | (go_at_call 106; refine (callsIn_wide.1 (collect_root hc hct hcg h1)).mono ?_; rintro e w2 ⟨g, cap, cur, rfl, k1, k2, k3, k4, h2⟩))
  go_ret
  exact ⟨g, cap, cur, rfl, k1, k2, k3, k4, Own.drop1 (m1 := [(g, .cells cur 3)]) (Own.drop1 (m1 := [(g, .cells cur 3)]) h2)⟩
end Go.Proofs.YthjjpmoifgcepaaGreat.Jt
