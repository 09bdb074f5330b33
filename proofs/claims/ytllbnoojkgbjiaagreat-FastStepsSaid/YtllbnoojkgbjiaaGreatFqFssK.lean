import Derived.Test.YtllbnoojkgbjiaaGreatFqFssE
import Derived.Test.YtllbnoojkgbjiaaGreatFqFssC
import Derived.Test.YtllbnoojkgbjiaaGreatFqFssW
import Derived.Test.YtllbnoojkgbjiaaGreatFqSrC
import Derived.Test.YtllbnoojkgbjiaaGreatFq11
import Derived.Test.YtllbnoojkgbjiaaGreatFqStepP
/-
  wainscotlaw22.FastSteps: its known calls. No condition.
-/
namespace Go.Proofs.YtllbnoojkgbjiaaGreat.Fss
open Go Ex Mem See
open Go.RowKit
open Step (headR hideR showG)
theorem fn_rNew : FnOk Tryz.prog 14 := ⟨Tryz.f14, _, Tryz.func14, by kernel_rfl, rfl⟩
theorem fn_rWordsM : FnOk Tryz.prog 10 := ⟨Tryz.f10, _, Tryz.func10, by kernel_rfl, rfl⟩
theorem fn_eqW : FnOk Tryz.prog 8 := ⟨Tryz.f8, _, Tryz.func8, by kernel_rfl, rfl⟩
theorem fn_rWords : FnOk Tryz.prog 12 := ⟨Tryz.f12, _, Tryz.func12, by kernel_rfl, rfl⟩
theorem fn_cCheck : FnOk Tryz.prog 18 := ⟨Tryz.f18, _, Tryz.func18, by kernel_rfl, rfl⟩
theorem fn_rCheck : FnOk Tryz.prog 45 := ⟨Tryz.f45, _, Tryz.func45, by kernel_rfl, rfl⟩
theorem fn_headOf : FnOk Tryz.prog 94 := ⟨Tryz.f94, _, Tryz.func94, by kernel_rfl, rfl⟩
theorem fn_rHeadOf : FnOk Tryz.prog 75 := ⟨Tryz.f75, _, Tryz.func75, by kernel_rfl, rfl⟩
theorem fn_headF : FnOk Tryz.prog 60 := ⟨Tryz.f60, _, Tryz.func60, by kernel_rfl, rfl⟩
theorem fn_rHead : FnOk Tryz.prog 54 := ⟨Tryz.f54, _, Tryz.func54, by kernel_rfl, rfl⟩
theorem fn_show : FnOk Tryz.prog 69 := ⟨Tryz.f69, _, Tryz.func69, by kernel_rfl, rfl⟩
theorem fn_rShow : FnOk Tryz.prog 51 := ⟨Tryz.f51, _, Tryz.func51, by kernel_rfl, rfl⟩
theorem fn_hideF : FnOk Tryz.prog 71 := ⟨Tryz.f71, _, Tryz.func71, by kernel_rfl, rfl⟩
theorem fn_rHide : FnOk Tryz.prog 53 := ⟨Tryz.f53, _, Tryz.func53, by kernel_rfl, rfl⟩
/-! what these answer -/
def AnsHead (f : FuncId) : Prop := ∀ s o w, Calls Tryz.prog f #[.int .i64 s, .int .i64 o] w fun e w' => e = .returned (.tuple #[.int .u64 ((headR s o).2 : Nat), .int .i64 (headR s o).1]) ∧ w = w'
theorem ans_headF : AnsHead 60 := fun s o w => by
  unfold headR
  by_cases h : headOk s o
  · rw [if_pos h]; exact head_ok _ _ h w
  · rw [if_neg h]
    by_cases hn : s = -1 ∧ o = -1
    · rw [if_pos hn, hn.1, hn.2]; exact head_none w
    · rw [if_neg hn]; exact head_bad _ _ h hn w
theorem ans_rHead : AnsHead 54 := fun s o w => by
  unfold headR
  by_cases h : headOk s o
  · rw [if_pos h]; exact rhead_ok _ _ h w
  · rw [if_neg h]
    by_cases hn : s = -1 ∧ o = -1
    · rw [if_pos hn, hn.1, hn.2]; exact rhead_none w
    · rw [if_neg hn]; exact rhead_bad _ _ h hn w
def AnsHeadOf (f : FuncId) : Prop := ∀ (x : Nat) (_ : x < 18446744073709551616) w, Calls Tryz.prog f #[.int .u64 x] w fun e w' => e = .returned (headV x) ∧ w = w'
theorem ans_headOf : AnsHeadOf 94 := fun x hx w => headOf_spec x hx w
theorem ans_rHeadOf : AnsHeadOf 75 := fun x hx w => rheadOf_spec x hx w
def AnsShow (f : FuncId) : Prop := ∀ (x key : Nat) (n : Int) (_ : x < 18446744073709551616) (_ : key < 18446744073709551616) w, Calls Tryz.prog f #[.int .u64 x, .int .u64 key, .int .i64 n] w fun r w' => r = .returned (match showG x key n with | some i => .tuple #[.int .i64 i, .bool true] | none => .tuple #[.int .i64 0, .bool false]) ∧ w = w'
theorem ans_show : AnsShow 69 := fun x key n hx hk w => by
  unfold showG
  by_cases h : 0 ≤ n ∧ n < 16
  · rw [if_pos h]
    have := show_ok x key n.toNat hx hk (by omega) w
    rw [show ((n.toNat : Nat) : Int) = n from by omega] at this
    exact this
  · rw [if_neg h]
    exact show_bad _ _ _ h w
theorem ans_rShow : AnsShow 51 := fun x key n hx hk w => by
  unfold showG
  by_cases h : 0 ≤ n ∧ n < 16
  · rw [if_pos h]
    have := rshow_ok x key n.toNat hx hk (by omega) w
    rw [show ((n.toNat : Nat) : Int) = n from by omega] at this
    exact this
  · rw [if_neg h]
    exact rshow_bad _ _ _ h w
def AnsHide (f : FuncId) : Prop := ∀ (i : Int) (key : Nat) (n : Int) (_ : key < 18446744073709551616) w, Calls Tryz.prog f #[.int .i64 i, .int .u64 key, .int .i64 n] w fun e w' => e = .returned (.tuple #[.int .u64 ((hideR i key n).2 : Nat), .int .i64 (hideR i key n).1]) ∧ w = w'
theorem hideV_R (i : Int) (key : Nat) (n : Int) : hideV i key n = .tuple #[.int .u64 ((hideR i key n).2 : Nat), .int .i64 (hideR i key n).1] := by
  unfold hideV hideR
  split <;> rfl
theorem ans_hide : AnsHide 71 := fun i key n hk w => by rw [← hideV_R]; exact hide_spec _ _ _ hk w
theorem ans_rHide : AnsHide 53 := fun i key n hk w => by rw [← hideV_R]; exact rhide_spec _ _ _ hk w
section
variable [Nums]
theorem kc_headOf {f : FuncId} (hf : FnOk Tryz.prog f) (ha : AnsHeadOf f) {x : Nat} (hx : x < 18446744073709551616) (h0 : wHead.ev Nums.σ = (x : Int)) (h1 : Nums.σ 61 = if (headOf x).isSome then 1 else 0) (h2 : ∀ s o, headOf x = some (s, o) → Nums.σ 63 = s ∧ Nums.σ 64 = o) :
    ∀ k ∈ kcHeadOf f, KcOk Tryz.prog k := by
  intro k hk
  simp only [kcHeadOf, List.mem_cons, List.not_mem_nil, or_false] at hk
  rcases hk with rfl | rfl | rfl
  · refine kc_pure rfl rfl rfl rfl rfl hf fun hcs W w m hO => ?_
    have h10 := hcs (.eq (v 61) (l 1), true) List.mem_cons_self
    simp only [Cnd.ev, SE.ev, v, l, h1, beq_iff_eq] at h10
    rw [show (valsOf Nums.σ [.sym .u64 wHead]).toArray = #[.int .u64 (x : Int)] from by simp only [valsOf, Ex.valOf, h0]]
    refine (ha x hx w).mono ?_
    rintro e w' ⟨rfl, rfl⟩
    refine ⟨?_, hO⟩
    unfold headV
    cases hh : headOf x with
    | none => rw [hh] at h10; cases h10
    | some p =>
      obtain ⟨s, o⟩ := p
      obtain ⟨e1, e2⟩ := h2 s o hh
      simp [sI, Ex.valOf, valsOf, SE.ev, e1, e2]
  · refine kc_pure rfl rfl rfl rfl rfl hf fun hcs W w m hO => ?_
    have h10 := hcs (.eq (v 61) (l 1), false) List.mem_cons_self
    simp only [Cnd.ev, SE.ev, v, l, h1] at h10
    rw [show (valsOf Nums.σ [.sym .u64 wHead]).toArray = #[.int .u64 (x : Int)] from by simp only [valsOf, Ex.valOf, h0]]
    refine (ha x hx w).mono ?_
    rintro e w' ⟨rfl, rfl⟩
    refine ⟨?_, hO⟩
    unfold headV
    cases hh : headOf x with
    | none => rfl
    | some p => rw [hh] at h10; simp at h10
  · refine kc_pure rfl rfl rfl rfl rfl hf fun hcs W w m hO => ?_
    refine (ha 0 (by omega) w).mono ?_
    rintro e w' ⟨rfl, rfl⟩
    exact ⟨rfl, hO⟩
theorem kc_show2 {f : FuncId} (hf : FnOk Tryz.prog f) (ha : AnsShow f) {i : Nat} {xv : AV} {x key : Nat} (hsh : xv.shut = true) (hx : x < 18446744073709551616) (hk : key < 18446744073709551616) (h0 : Ex.valOf Nums.σ xv = .int .u64 (x : Int)) (h1 : keyE.ev Nums.σ = (key : Int))
    (h2 : Nums.σ i = if (showG x key (Nums.σ 6)).isSome then 1 else 0) (h3 : ∀ s, showG x key (Nums.σ 6) = some s → Nums.σ (i + 1) = s) : ∀ k ∈ kcShow2 f i xv, KcOk Tryz.prog k := by
  intro k hk'
  have hs : AV.shuts [xv, .sym .u64 keyE, sI 6] = true := by simp [AV.shuts, hsh, AV.shut, sI]
  have hargs : (valsOf Nums.σ [xv, .sym .u64 keyE, sI 6]).toArray = #[.int .u64 (x : Int), .int .u64 (key : Int), .int .i64 (Nums.σ 6)] := by simp only [valsOf, h0, Ex.valOf, h1, sI, SE.ev]
  simp only [kcShow2, List.mem_cons, List.not_mem_nil, or_false] at hk'
  rcases hk' with rfl | rfl
  · refine kc_pure hs rfl rfl rfl rfl hf fun hcs W w m hO => ?_
    have h10 := hcs (.eq (v i) (l 1), true) List.mem_cons_self
    simp only [Cnd.ev, SE.ev, v, l, h2, beq_iff_eq] at h10
    rw [hargs]
    refine (ha x key _ hx hk w).mono ?_
    rintro e w' ⟨rfl, rfl⟩
    refine ⟨?_, hO⟩
    cases hh : showG x key (Nums.σ 6) with
    | none => rw [hh] at h10; cases h10
    | some s => simp [sI, Ex.valOf, valsOf, SE.ev, h3 s hh]
  · refine kc_pure hs rfl rfl rfl rfl hf fun hcs W w m hO => ?_
    have h10 := hcs (.eq (v i) (l 1), false) List.mem_cons_self
    simp only [Cnd.ev, SE.ev, v, l, h2] at h10
    rw [hargs]
    refine (ha x key _ hx hk w).mono ?_
    rintro e w' ⟨rfl, rfl⟩
    refine ⟨?_, hO⟩
    cases hh : showG x key (Nums.σ 6) with
    | none => rfl
    | some s => rw [hh] at h10; simp at h10
theorem kc_head2 {f : FuncId} (hf : FnOk Tryz.prog f) (ha : AnsHead f) {o i : Nat} (h1 : Nums.σ i = (headR (Nums.σ 5) (Nums.σ o)).1) (h2 : Nums.σ (i + 1) = ((headR (Nums.σ 5) (Nums.σ o)).2 : Nat)) : ∀ k ∈ kcHead2 f o i, KcOk Tryz.prog k := by
  intro k hk
  have hargs : (valsOf Nums.σ [sI 5, sI o]).toArray = #[.int .i64 (Nums.σ 5), .int .i64 (Nums.σ o)] := by simp only [valsOf, Ex.valOf, sI, SE.ev]
  simp only [kcHead2, List.mem_cons, List.not_mem_nil, or_false] at hk
  rcases hk with rfl | rfl
  · refine kc_pure rfl rfl rfl rfl rfl hf fun hcs W w m hO => ?_
    have h10 := hcs (.eq (v i) (l 0), true) List.mem_cons_self
    simp only [Cnd.ev, SE.ev, v, l, h1, beq_iff_eq] at h10
    rw [hargs]
    refine (ha _ _ w).mono ?_
    rintro e w' ⟨rfl, rfl⟩
    exact ⟨by simp [Ex.valOf, Ex.valsOf, sU, nI, SE.ev, h2, h10], hO⟩
  · refine kc_pure rfl rfl rfl rfl rfl hf fun hcs W w m hO => ?_
    have h10 := hcs (.eq (v i) (l 0), false) List.mem_cons_self
    simp only [Cnd.ev, SE.ev, v, l, h1] at h10
    rw [hargs]
    refine (ha _ _ w).mono ?_
    rintro e w' ⟨rfl, rfl⟩
    refine ⟨?_, hO⟩
    unfold headR at h10 ⊢
    by_cases h : headOk (Nums.σ 5) (Nums.σ o)
    · rw [if_pos h] at h10; simp at h10
    · rw [if_neg h] at h10 ⊢
      by_cases hn : Nums.σ 5 = -1 ∧ Nums.σ o = -1
      · rw [if_pos hn] at h10; simp at h10
      · rw [if_neg hn]; rfl
theorem kc_hide2 {f : FuncId} (hf : FnOk Tryz.prog f) (ha : AnsHide f) {key : Nat} (hk : key < 18446744073709551616) (h0 : keyE.ev Nums.σ = (key : Int)) (h1 : Nums.σ 69 = (hideR (Nums.σ 12) key (Nums.σ 6)).1) (h2 : Nums.σ 70 = ((hideR (Nums.σ 12) key (Nums.σ 6)).2 : Nat)) : ∀ k ∈ kcHide2 f, KcOk Tryz.prog k := by
  intro k hk'
  have hargs : (valsOf Nums.σ [sI 12, .sym .u64 keyE, sI 6]).toArray = #[.int .i64 (Nums.σ 12), .int .u64 (key : Int), .int .i64 (Nums.σ 6)] := by simp only [valsOf, Ex.valOf, h0, sI, SE.ev]
  simp only [kcHide2, List.mem_cons, List.not_mem_nil, or_false] at hk'
  rcases hk' with rfl | rfl
  · refine kc_pure rfl rfl rfl rfl rfl hf fun hcs W w m hO => ?_
    have h10 := hcs (.eq (v 69) (l 0), true) List.mem_cons_self
    simp only [Cnd.ev, SE.ev, v, l, h1, beq_iff_eq] at h10
    rw [hargs]
    refine (ha _ _ _ hk w).mono ?_
    rintro e w' ⟨rfl, rfl⟩
    exact ⟨by simp [Ex.valOf, Ex.valsOf, sU, nI, SE.ev, h2, h10], hO⟩
  · refine kc_pure rfl rfl rfl rfl rfl hf fun hcs W w m hO => ?_
    have h10 := hcs (.eq (v 69) (l 0), false) List.mem_cons_self
    simp only [Cnd.ev, SE.ev, v, l, h1] at h10
    rw [hargs]
    refine (ha _ _ _ hk w).mono ?_
    rintro e w' ⟨rfl, rfl⟩
    refine ⟨?_, hO⟩
    unfold hideR at h10 ⊢
    split at h10
    · simp at h10
    · rename_i h
      rw [if_neg h]
      rfl
end
end Go.Proofs.YtllbnoojkgbjiaaGreat.Fss
