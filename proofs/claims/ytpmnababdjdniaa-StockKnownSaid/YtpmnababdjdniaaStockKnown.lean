/-
  wainscotlaw13.StockKnown answers true.
-/
import Derived.Test.YtpmnababdjdniaaStockPlaysLaw
import Derived.Test.YtpmnababdjdniaaSlicesInt
namespace Go.Proofs.Ytpmnababdjdniaa.stockKnown
open Go.RowKit

/-- a stock that is none: a nil pointer, or one to a zero struct -/
def NoStock (w : World) (p : Option Addr) : Prop := p = none ∨ ∃ b, p = some ⟨b, 0, none⟩ ∧ w.cell? ⟨b, 0, none⟩ = some (.slice none 0 0)

set_option maxHeartbeats 400000 in
theorem of_none {w : World} {p : Option Addr} (h : NoStock w p) (cpu : Int) : Calls Try.prog 37 #[.pointer p, .int .i64 cpu] w fun e w' => e = .returned (.pointer none) ∧ w = w' := by
  rcases h with rfl | ⟨b, rfl, c0⟩
  · go_enter Try.func37, Try.ntmps37
    go_wp2
    go_ret
    exact ⟨rfl, rfl⟩
  · by_cases hc : cpu < 0
    · go_enter Try.func37, Try.ntmps37
      go_wp2
      go_ret
      exact ⟨rfl, rfl⟩
    · have h3 : 0 ≤ cpu := by omega
      go_enter Try.func37, Try.ntmps37
      go_wp2
      go_ret
      exact ⟨rfl, rfl⟩
set_option maxHeartbeats 400000 in
theorem take_none {w : World} {p : Option Addr} (h : NoStock w p) (cpu g n : Int) : Calls Try.prog 20 #[.pointer p, .int .i64 cpu, .int .i64 g, .int .i64 n] w fun e w' => e = .returned (.bool false) ∧ w = w' := by
  go_enter Try.func20, Try.ntmps20
  go_wp2_with (go_at_call 37; refine (of_none h cpu).mono ?_; rintro e w' ⟨rfl, rfl⟩)
  go_ret
  exact ⟨rfl, rfl⟩
set_option maxHeartbeats 400000 in
theorem drain_none {w : World} {p : Option Addr} (h : NoStock w p) (cpu : Int) : Calls Try.prog 22 #[.pointer p, .int .i64 cpu] w fun e w' => e = .returned (.tuple #[.int .i64 0, .int .i64 0]) ∧ w = w' := by
  go_enter Try.func22, Try.ntmps22
  go_wp2_with (go_at_call 37; refine (of_none h cpu).mono ?_; rintro e w' ⟨rfl, rfl⟩)
  go_ret2
  exact ⟨rfl, rfl⟩
set_option maxHeartbeats 400000 in
theorem has_none {w : World} {p : Option Addr} (h : NoStock w p) (cpu : Int) : Calls Try.prog 14 #[.pointer p, .int .i64 cpu] w fun e w' => e = .returned (.tuple #[.int .i64 0, .int .i64 0]) ∧ w = w' := by
  go_enter Try.func14, Try.ntmps14
  go_wp2_with (go_at_call 37; refine (of_none h cpu).mono ?_; rintro e w' ⟨rfl, rfl⟩)
  go_ret2
  exact ⟨rfl, rfl⟩
set_option maxHeartbeats 400000 in
theorem put_none {w : World} {p : Option Addr} (h : NoStock w p) (cpu g n : Int) : Calls Try.prog 21 #[.pointer p, .int .i64 cpu, .int .i64 g, .int .i64 n] w fun e w' => e = .returned (.tuple #[.int .i64 0, .int .i64 0, .int .i64 1]) ∧ w = w' := by
  rcases h with rfl | ⟨b, rfl, c0⟩
  · go_enter Try.func21, Try.ntmps21
    go_wp2
    go_ret3
    exact ⟨rfl, rfl⟩
  · go_enter Try.func21, Try.ntmps21
    go_wp2
    go_ret3
    exact ⟨rfl, rfl⟩
set_option maxHeartbeats 400000 in
theorem held_none {w : World} {p : Option Addr} (h : NoStock w p) (g : Int) : Calls Try.prog 16 #[.pointer p, .int .i64 g] w fun e w' => e = .returned (.int .i64 0) ∧ w = w' := by
  rcases h with rfl | ⟨b, rfl, c0⟩
  · go_enter Try.func16, Try.ntmps16
    go_wp2
    go_ret
    exact ⟨rfl, rfl⟩
  · go_enter Try.func16, Try.ntmps16
    go_wp2
    go_loop [4, 14] (fun n k => n = .int .i64 0 ∧ k = .int .i64 0) (fun _ _ => 0)
    case atStart => exact ⟨rfl, rfl⟩
    case round =>
      obtain ⟨rfl, rfl⟩ := hrel
      go_wp2
      go_ret
      exact ⟨rfl, rfl⟩

theorem plays_spec (cpus : Int) (A : Option Addr) (len cap : Nat) (hlen : len ≤ maxLen) {W w : World} {m : List (Nat × Obj)} (hA : FlatAt w [some .i64, some .i64, some .i64, some .i64] A len) (h : Own W m w) :
    Calls Try.prog 3 #[.int .i64 cpus, .slice A len cap] w fun e w' => e = .returned (.bool true) ∧ Own W m w' := by
  by_cases hn : cpus < 1 ∨ 8 < cpus
  · exact (stockPlays.walk_bad cpus A len cap hlen hn (Own.self w)).mono fun _ _ ⟨he, ho⟩ => ⟨he, h.of_self ho⟩
  · exact (stockPlays.walk_ok cpus A len cap hlen (by omega) (by omega) hA (Own.self w)).mono fun _ _ ⟨he, ho⟩ => ⟨he, h.of_self ho⟩

def ends : List Int := [-9223372036854775808, -1, 0, 1, 511, 512, 513, 1023, 1024, 1025, 9007199254740991, 9007199254740992, 9223372036854775807]
def dos (y1 y2 : Int) : List Int := [1, 0, 1, y1, 1, 0, 1, y2, 0, 0, 1, y1, 1, 0, 2, y2, 0, 0, 2, y2, 1, 0, 16, 5, 1, 0, 17, 5, 1, 9, 0, 0, 0, -1, 1, 1, 2, 8, 0, 0, 2, 0, 0, 0]
theorem ends_wf : ∀ x ∈ ends, (Lit.int .i64 x).wf = true := by decide

set_option maxRecDepth 100000 in
set_option maxHeartbeats 1000000 in
theorem walk {W w : World} (h : Own W [] w) : Calls Try.prog 6 #[] w fun e w' => e = .returned (.bool true) ∧ Own W [] w' := by
  go_enter Try.func6, Try.ntmps6
  go_wp2_with fail
  go_loopw [1, 2] (fun p i wr => ∃ k : Nat, k ≤ 2 ∧ i = .int .i64 k ∧ ∃ a, p = .pointer a ∧ NoStock wr a ∧ Own W [] wr) (fun _ i _ => (2 - intOf i).toNat)
  case atStart => exact ⟨0, by omega, rfl, none, rfl, .inl rfl, h⟩
  case round =>
    obtain ⟨k, hk, rfl, a, rfl, hn, hr⟩ := hrel
    by_cases hk2 : k < 2
    · go_wp2_with (first | (go_at_call 21; refine (put_none hn _ _ _).mono ?_; rintro e w' ⟨rfl, rfl⟩) | (go_at_call 22; refine (drain_none hn _).mono ?_; rintro e w' ⟨rfl, rfl⟩) | (go_at_call 14; refine (has_none hn _).mono ?_; rintro e w' ⟨rfl, rfl⟩) | (go_at_call 16; refine (held_none hn _).mono ?_; rintro e w' ⟨rfl, rfl⟩) | (go_at_call 20; refine (take_none hn _ _ _).mono ?_; rintro e w' ⟨rfl, rfl⟩))
      go_roundw
      case rel =>
        refine ⟨k + 1, by omega, by go_num, _, rfl, .inr ⟨_, rfl, ?_⟩, hr.alloc _⟩
        rw [World.cell?_alloc_new]; rfl
      case measure => simp [intOf]; omega
    · clear hn
      go_wp2_with fail
      have h1 := hr.new (.cells (ints ends).toArray 3)
      rw [show (#[.int .i64 (-9223372036854775808), .int .i64 (-1), .int .i64 0, .int .i64 1, .int .i64 511, .int .i64 512, .int .i64 513, .int .i64 1023, .int .i64 1024, .int .i64 1025, .int .i64 9007199254740991, .int .i64 9007199254740992, .int .i64 9223372036854775807] : Array Value) = (ints ends).toArray from rfl]
      generalize wr.heap.size = ge at h1 ⊢
      generalize wr.alloc (.cells (ints ends).toArray 3) = w1 at h1 ⊢
      clear hr hk hk2
      go_loopw [11] (fun i wr => ∃ k : Nat, k ≤ 13 ∧ i = .int .i64 k ∧ Own W [(ge, .cells (ints ends).toArray 3)] wr) (fun i _ => (13 - intOf i).toNat)
      case atStart => exact ⟨0, by omega, rfl, h1⟩
      case round =>
        obtain ⟨i, hi, rfl, hr⟩ := hrel
        by_cases hi13 : i < 13
        · have i0 : (0 : Int) ≤ i := by omega
          have i1 : (i : Int) < 13 := by omega
          go_wp2_with fail
          obtain ⟨wo, rfl⟩ : ∃ wo : World, wo = wr := ⟨_, rfl⟩
          go_loopw [12] (fun i wr => ∃ k : Nat, k ≤ 13 ∧ i = .int .i64 k ∧ Own W [(ge, .cells (ints ends).toArray 3)] wr) (fun i _ => (13 - intOf i).toNat)
          case atStart => exact ⟨0, by omega, rfl, hr⟩
          case round =>
            obtain ⟨k, hk, rfl, hr⟩ := hrel
            by_cases hk13 : k < 13
            · obtain ⟨y1, hy1⟩ : ∃ y, ends[i]? = some y := ⟨_, List.getElem?_eq_getElem (show i < ends.length from hi13)⟩
              obtain ⟨y2, hy2⟩ : ∃ y, ends[k]? = some y := ⟨_, List.getElem?_eq_getElem (show k < ends.length from hk13)⟩
              have wf1 := ends_wf y1 (List.mem_of_getElem? hy1)
              have wf2 := ends_wf y2 (List.mem_of_getElem? hy2)
              have q1 : wr.cell? ⟨ge, i, none⟩ = some (.int .i64 y1) := by rw [hr.cell List.mem_cons_self]; simpa using ints_get hy1
              have q2 : wr.cell? ⟨ge, k, none⟩ = some (.int .i64 y2) := by rw [hr.cell List.mem_cons_self]; simpa using ints_get hy2
              have k0 : (0 : Int) ≤ k := by omega
              have k1 : (k : Int) < 13 := by omega
              clear hy1 hy2
              go_wp2_with fail
              go_region_held3 (fun w' => w'.cell? ⟨ge, i, none⟩ = some (.int .i64 y1) ∧ w'.cell? ⟨ge, k, none⟩ = some (.int .i64 y2)) (go_keep) (fail)
              go_wp2_with fail
              have hn := (hr.new (.cells (ints (dos y1 y2)).toArray 32)).drew
              have hwf : ∀ x ∈ dos y1 y2, (Lit.int .i64 x).wf = true := by
                intro x hx
                simp only [dos, List.mem_cons, List.not_mem_nil, or_false] at hx
                rcases hx with rfl | rfl | rfl | rfl | rfl | rfl | rfl | rfl | rfl | rfl | rfl | rfl | rfl | rfl | rfl | rfl | rfl | rfl | rfl | rfl | rfl | rfl | rfl | rfl | rfl | rfl | rfl | rfl | rfl | rfl | rfl | rfl | rfl | rfl | rfl | rfl | rfl | rfl | rfl | rfl | rfl | rfl | rfl | rfl <;> first | exact wf1 | exact wf2 | rfl
              have hat : ∀ w' : World, Own W [(wr.heap.size, .cells (ints (dos y1 y2)).toArray 32), (ge, .cells (ints ends).toArray 3)] w' → FlatAt w' [some .i64, some .i64, some .i64, some .i64] (some ⟨wr.heap.size, 0, none⟩) 11 :=
                fun w' ho => flatAt_of (l := dos y1 y2) (n := 4) (ho.get List.mem_cons_self) (by simp [dos]) hwf
              have HAT := Lib.hid hat
              clear hat hwf wf1 wf2 q1 q2
              change Calls _ _ #[.int .i64 1, .slice (some ⟨wr.heap.size, 0, none⟩) 11 11] ((wr.alloc (.cells (ints (dos y1 y2)).toArray 32)).drew) _
              refine (plays_spec 1 _ 11 11 (by unfold maxLen; omega) (HAT.out _ hn) hn).mono ?_
              rintro e w5 ⟨rfl, h5⟩
              go_wp2_with fail
              refine (plays_spec 8 _ 11 11 (by unfold maxLen; omega) (HAT.out _ h5) h5).mono ?_
              rintro e w6 ⟨rfl, h6⟩
              go_wp2_with fail
              go_roundw
              case rel => exact ⟨k + 1, by omega, by go_num, h6.skip⟩
              case measure => simp [intOf]; omega
            · go_wp2_with fail
              go_roundw
              case rel => exact ⟨i + 1, by omega, by go_num, hr⟩
              case measure => simp [intOf]; omega
        · go_wp2_with fail
          refine (works_spec hr).mono ?_
          rintro e w5 ⟨rfl, h5⟩
          go_wp2_with fail
          refine (plays_spec 0 none 0 0 (by unfold maxLen; omega) (fun h => absurd h (by omega)) h5).mono ?_
          rintro e w6 ⟨rfl, h6⟩
          go_wp2_with fail
          refine (plays_spec 9 none 0 0 (by unfold maxLen; omega) (fun h => absurd h (by omega)) h6).mono ?_
          rintro e w7 ⟨rfl, h7⟩
          go_wp2_with fail
          go_ret
          exact ⟨rfl, h7.skip⟩
end Go.Proofs.Ytpmnababdjdniaa.stockKnown
