/-
  Where a core's words lie: no two at one place, all within the words. Plain.
-/
import Derived.Test.YtigakendeghoaaaRows
namespace Go.Proofs.Ytigakendeghoaaa.Apart
/-- a processor's places -/
def cpuPl (i : Nat) : List Nat := [4 * i, 4 * i + 1, 4 * i + 2, 4 * i + 3]
/-- a slab's places -/
def slabPl (C S O s : Nat) : List Nat := [4 * C + 4 + 4 * s, 4 * C + 4 + 4 * s + 1, 4 * C + 4 + 4 * s + 2] ++ (List.range O).map fun i => 4 * C + 4 + 4 * S + s * O + i
def pl (C S O : Nat) : List Nat := [4 * C, 4 * C + 1, 4 * C + 2] ++ ((List.range C).flatMap cpuPl ++ (List.range S).flatMap (slabPl C S O))
theorem mem_cpu {C x : Nat} (h : x ∈ (List.range C).flatMap cpuPl) : x < 4 * C := by
  rw [List.mem_flatMap] at h
  obtain ⟨i, hi, hx⟩ := h
  rw [List.mem_range] at hi
  simp [cpuPl] at hx
  omega
theorem mem_slab {C S O s x : Nat} (hs : s < S) (h : x ∈ slabPl C S O s) : (4 * C + 4 + 4 * s ≤ x ∧ x < 4 * C + 4 + 4 * s + 3) ∨ (4 * C + 4 + 4 * S + s * O ≤ x ∧ x < 4 * C + 4 + 4 * S + (s + 1) * O) := by
  simp only [slabPl, List.mem_append, List.mem_cons, List.not_mem_nil, or_false, List.mem_map, List.mem_range] at h
  rw [Nat.add_mul, Nat.one_mul]
  rcases h with h | ⟨i, hi, rfl⟩
  · left; omega
  · right; omega
theorem mem_pl {C S O x : Nat} (h : x ∈ pl C S O) : x < 4 * C + 4 + 4 * S + S * O := by
  simp only [pl, List.mem_append, List.mem_cons, List.not_mem_nil, or_false] at h
  rcases h with h | h | h
  · omega
  · have := mem_cpu h; omega
  · rw [List.mem_flatMap] at h
    obtain ⟨s, hs, hx⟩ := h
    rw [List.mem_range] at hs
    have hm : (s + 1) * O ≤ S * O := Nat.mul_le_mul_right O hs
    rcases mem_slab hs hx with h | h <;> omega
theorem range_pairs (n : Nat) : (List.range n).Pairwise (fun a b => a < b) := List.pairwise_lt_range
theorem nodup_cpu (C : Nat) : ((List.range C).flatMap cpuPl).Pairwise (· ≠ ·) := by
  rw [List.pairwise_flatMap]
  refine ⟨fun i _ => by simp [cpuPl], (range_pairs C).imp ?_⟩
  intro a b hab x hx y hy
  simp [cpuPl] at hx hy
  omega
theorem nodup_slab (C S O : Nat) : ((List.range S).flatMap (slabPl C S O)).Pairwise (· ≠ ·) := by
  rw [List.pairwise_flatMap]
  refine ⟨fun s hs => ?_, ?_⟩
  · rw [List.mem_range] at hs
    unfold slabPl
    rw [List.pairwise_append]
    refine ⟨by simp, ?_, ?_⟩
    · rw [List.pairwise_map]
      exact (range_pairs O).imp fun h => by omega
    · intro x hx y hy
      simp only [List.mem_cons, List.not_mem_nil, or_false] at hx
      rw [List.mem_map] at hy
      obtain ⟨i, _, rfl⟩ := hy
      omega
  · rw [List.pairwise_iff_forall_sublist]
    intro a b hab x hx y hy
    have hlt : a < b := by
      have := (range_pairs S).sublist hab
      simpa using this
    have hb : b < S := by
      have := hab.subset (List.mem_cons_of_mem _ List.mem_cons_self)
      simpa using this
    have hm : (a + 1) * O ≤ b * O := Nat.mul_le_mul_right O hlt
    rcases mem_slab (by omega) hx with h1 | h1 <;> rcases mem_slab hb hy with h2 | h2 <;> omega
theorem nodup_pl (C S O : Nat) : (pl C S O).Pairwise (· ≠ ·) := by
  unfold pl
  rw [List.pairwise_append, List.pairwise_append]
  refine ⟨by simp, ⟨nodup_cpu C, nodup_slab C S O, ?_⟩, ?_⟩
  · intro x hx y hy
    have := mem_cpu hx
    rw [List.mem_flatMap] at hy
    obtain ⟨s, hs, hy⟩ := hy
    rw [List.mem_range] at hs
    rcases mem_slab hs hy with h | h <;> omega
  · intro x hx y hy
    simp only [List.mem_cons, List.not_mem_nil, or_false] at hx
    rw [List.mem_append] at hy
    rcases hy with hy | hy
    · have := mem_cpu hy; omega
    · rw [List.mem_flatMap] at hy
      obtain ⟨s, hs, hy⟩ := hy
      rw [List.mem_range] at hs
      rcases mem_slab hs hy with h | h <;> omega
end Go.Proofs.Ytigakendeghoaaa.Apart
