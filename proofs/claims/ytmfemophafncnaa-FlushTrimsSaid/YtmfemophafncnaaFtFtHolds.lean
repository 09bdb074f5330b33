import Derived.Test.YtmfemophafncnaaFt11
import Derived.Test.YtmfemophafncnaaFt6
/-
  wainscotlaw25.FlushTrims: for every input the call returns true, and the input reads as it did. No condition.
-/
namespace Go.Proofs.Ytmfemophafncnaa.flushTrims
open Go.ChangeShapes Go.WideShapes Go.ChangeAt Go.RowKit
section
variable {H : Type} {enc : TypeId × Value → H} {P : Program} {w : World} {base : Nat} {spare : Nat → Bool} {held : Bool}
/-- a cell that is a slice of numbers -/
theorem cell_slice {t e : TypeId} {fuel : Nat} {cs : List Value} {x : DataW H × List MemPlace} (ht : P.underlying t = some (.slice e)) (hks : flatKinds P 4 e = some [some .i64]) (hlen : P.cellsOf e = 1) (h : DataW.trod enc P w base spare held fuel t cs = some x) (hlt : ∀ z ∈ x.2, z.block < w.heap.size) :
    ∃ (A : Option Addr) (len cap : Nat), cs = [.slice A len cap] ∧ len ≤ cap ∧ cap ≤ maxLen ∧ FlatAt w [some .i64] A len := by
  have hone : ∃ v : Value, cs = [v] ∧ v.cells.toList = [v] := by
    rcases Deep.open_slice ht h with ⟨h0, _⟩ | ⟨a, len, cap, m, n', D, Pl, hcs, _⟩
    · exact ⟨_, h0, rfl⟩
    · exact ⟨_, hcs, rfl⟩
  obtain ⟨v, rfl, hv⟩ := hone
  have hT : DataW.Trod enc P w base spare held t v x.1 x.2 := ⟨fuel, by rw [hv]; exact h⟩
  obtain ⟨A, len, cap, rfl, h1, h2, h3⟩ := open_slice_at 4 ht hks (by simpa using hlen) (by simp) hv hT hlt
  exact ⟨A, len, cap, rfl, h1, h2, h3⟩
/-- a cell that is a number -/
theorem cell_int {t : TypeId} {fuel : Nat} {cs : List Value} {x : DataW H × List MemPlace} (ht : P.underlying t = some (.int .i64)) (h : DataW.trod enc P w base spare held fuel t cs = some x) : ∃ n : Int, cs = [.int .i64 n] ∧ (Lit.int .i64 n).wf = true := by
  cases fuel with
  | zero => simp [DataW.trod] at h
  | succ fuel =>
    unfold DataW.trod at h
    rw [ht] at h
    match cs, h with
    | [.int k' z], h =>
      simp only at h
      split at h
      · rename_i hc
        exact ⟨z, by rw [hc.1], hc.2⟩
      · cases h
end
set_option maxRecDepth 100000 in
set_option maxHeartbeats 1000000 in
theorem lifted (os : Os) (started : os.Started) (H : Type) (enc : TypeId × Value → H) :
    ReturnsInHanded {} Try.checked os 3 .any (Rows.flushTrimsSpec.pre6 enc Try.prog Try.f3 Rows.flushTrimsRow.domain false) (Rows.flushTrimsSpec.post enc Try.prog Try.f3 false true false false) := by
  refine returnsInHanded_of_change (C := Try.checked) Try.own started (by kernel_rfl) Try.func3
    (ChangeSpec.witness6 (enc := enc) (C := Try.checked) false ⟨#[], #[.agg #[.int .i64 0, .int .i64 0, .int .i64 0, .slice none 0 0, .slice none 0 0, .slice none 0 0]], []⟩ 8 (by kernel_rfl) (by kernel_rfl) (by kernel_rfl) (by kernel_rfl)) ?_
  intro W base args ds gs before hval0 hW _ _
  have hval : ∀ (j : Nat) t v, Try.f3.params[j]? = some t → args[j]? = some v → Value.okWide Try.prog W .any base t v := hval0
  have hW' := hW
  obtain ⟨p, q, hA0, hV, rfl, hfz, hnd⟩ := hW
  have hA : DataW.TrodAll enc Try.prog W 0 (fun _ => true) true Try.f3.params.toList args.toList ds p := hA0
  rw [Try.params3] at hA hval
  obtain ⟨v0, vs0, d0, ds0, p0, q0, hargs, rfl, rfl, h0, r0⟩ := trodAll_cons hA
  obtain ⟨rfl, rfl, rfl⟩ := trodAll_nil r0
  obtain rfl : args = #[v0] := by cases args; simp_all
  obtain ⟨rfl, rfl⟩ := trodVars_none hV
  obtain ⟨cs, rfl, hcs⟩ := arg_agg (by kernel_rfl) (hval 0 _ _ rfl rfl)
  obtain ⟨fuel, hf⟩ := h0
  obtain ⟨xs, n, _, hx, hlen, hxl, hfld⟩ := DataW.trod_struct Try.underlying24 hf
  have hc6 : cs.size = 6 := by rw [hcs]; kernel_rfl
  have hp0 : ∀ z ∈ p0, z.block < W.heap.size := fun z hz => hW'.lt z (by simp [hz])
  have hsub : ∀ (i : Nat) y, xs[i]? = some y → ∀ z ∈ y.2, z.block < W.heap.size := fun i y hi z hz => hp0 z (by
    have : p0 = xs.flatMap (·.2) := congrArg Prod.snd hx
    rw [this, List.mem_flatMap]
    exact ⟨y, List.mem_of_getElem? hi, hz⟩)
  have get : ∀ i, i < 6 → ∃ y, xs[i]? = some y := fun i hi => by
    have : xs.length = 6 := by rw [hxl]; kernel_rfl
    exact ⟨_, List.getElem?_eq_getElem (by omega)⟩
  have tk : ∀ (i : Nat) (v : Value), (cs.toList.drop i).take 1 = [v] → cs[i]? = some v := fun i v h => by
    have : ((cs.toList.drop i).take 1)[0]? = some v := by rw [h]; rfl
    rw [List.getElem?_take, if_pos (by omega), List.getElem?_drop] at this
    simpa using this
  obtain ⟨y0, g0⟩ := get 0 (by omega)
  obtain ⟨y1, g1⟩ := get 1 (by omega)
  obtain ⟨y2, g2⟩ := get 2 (by omega)
  obtain ⟨y3, g3⟩ := get 3 (by omega)
  obtain ⟨y4, g4⟩ := get 4 (by omega)
  obtain ⟨y5, g5⟩ := get 5 (by omega)
  obtain ⟨n0, e0, w0⟩ := cell_int Try.underlying3 ((hfld 0 _ rfl).trans g0)
  obtain ⟨n1, e1, w1⟩ := cell_int Try.underlying3 ((hfld 1 _ rfl).trans g1)
  obtain ⟨n2, e2, w2⟩ := cell_int Try.underlying3 ((hfld 2 _ rfl).trans g2)
  obtain ⟨A3, len3, cap3, e3, hlc3, hcm3, hat3⟩ := cell_slice Try.underlying22 (by kernel_rfl) (by kernel_rfl) ((hfld 3 _ rfl).trans g3) (hsub 3 _ g3)
  obtain ⟨A4, len4, cap4, e4, hlc4, hcm4, hat4⟩ := cell_slice Try.underlying22 (by kernel_rfl) (by kernel_rfl) ((hfld 4 _ rfl).trans g4) (hsub 4 _ g4)
  obtain ⟨A5, len5, cap5, e5, hlc5, hcm5, hat5⟩ := cell_slice Try.underlying22 (by kernel_rfl) (by kernel_rfl) ((hfld 5 _ rfl).trans g5) (hsub 5 _ g5)
  obtain rfl : cs = #[.int .i64 n0, .int .i64 n1, .int .i64 n2, .slice A3 len3 cap3, .slice A4 len4 cap4, .slice A5 len5 cap5] := by
    apply Array.ext_getElem?
    intro i
    match i with
    | 0 => rw [tk 0 _ e0]; rfl
    | 1 => rw [tk 1 _ e1]; rfl
    | 2 => rw [tk 2 _ e2]; rfl
    | 3 => rw [tk 3 _ e3]; rfl
    | 4 => rw [tk 4 _ e4]; rfl
    | 5 => rw [tk 5 _ e5]; rfl
    | i + 6 => rw [Array.getElem?_eq_none (by omega)]; rfl
  have hc : Calls Try.prog 3 #[.agg #[.int .i64 n0, .int .i64 n1, .int .i64 n2, .slice A3 len3 cap3, .slice A4 len4 cap4, .slice A5 len5 cap5]] W fun e w' => e = .returned (.bool true) ∧ Own W [] w' := by
    exact Ft.trims_law W n0 n1 n2 w0 w1 w2 ⟨hlc3, hcm3⟩ ⟨hlc4, hcm4⟩ ⟨hlc5, hcm5⟩ hat3 hat4 hat5
  exact hc.mono fun e W' ⟨he, hO⟩ => ⟨_, he, law_post Try.laidOut Try.underlying4 rfl rfl (by intro t ht; simp [Try.params3] at ht; subst ht; exact ⟨by kernel_rfl, of_decide_eq_true (by kernel_rfl)⟩) hW' rfl hO.below⟩

theorem holds : Rows.FlushTrimsSaid :=
  OpenClaim.holds_of_wide 3 Try.f3 rfl rfl rfl rfl rfl rfl rfl ⟨rfl, rfl, rfl, rfl, rfl⟩ rfl rfl rfl rfl rfl (by kernel_rfl) Try.func3 (by kernel_rfl)
    (of_decide_eq_true (by kernel_rfl)) (by unfold Func.isWrapper; first | (rw [if_pos (by decide +kernel)]; kernel_rfl) | (rw [if_neg (by decide +kernel)]; exact ⟨rfl, rfl⟩))
    (fun os started H enc _ => lifted os started H enc)
end Go.Proofs.Ytmfemophafncnaa.flushTrims
