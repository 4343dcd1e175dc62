/-
  Plain laws on draws: shuffles, samples.
-/
import Derived.Test.YtfhipkdcekffaaaGreatDoorPl1
namespace Go.Proofs.YtfhipkdcekffaaaGreatDoor
open Go
/-! ### draws -/
def nxt (d : Int) : Int := IntKind.u64.wrap (IntKind.u64.wrap (d * 6364136223846793005) + 1442695040888963407)
/-- The drawn number below n. -/
def pik (d : Int) (n : Nat) : Nat := (nxt d / 8589934592 % n).toNat

def shf : Nat → Int → List Int → Int × List Int
  | 0, d, l => (d, l)
  | i + 1, d, l => shf i (nxt d) ((l.set (i + 1) (l.getD (pik d (i + 2)) 0)).set (pik d (i + 2)) (l.getD (i + 1) 0))

theorem pik_lt (d : Int) {n : Nat} (h : 0 < n) : pik d n < n := by
  unfold pik
  have h1 := Int.emod_nonneg (nxt d / 8589934592) (show (n : Int) ≠ 0 by omega)
  have h2 := Int.emod_lt_of_pos (nxt d / 8589934592) (show (0 : Int) < n by omega)
  omega

theorem swap_perm (l : List Int) (i j : Nat) (hi : i < l.length) (hj : j < l.length) : ((l.set i (l.getD j 0)).set j (l.getD i 0)).Perm l := by
  have := List.set_set_perm hi hj
  simpa [hi, hj] using this

theorem shf_perm : ∀ (i : Nat) (d : Int) (l : List Int), i < l.length ∨ i = 0 → (shf i d l).2.Perm l
  | 0, _, l, _ => List.Perm.refl l
  | i + 1, d, l, h => by
    have hk := pik_lt d (show 0 < i + 2 by omega)
    have hp := swap_perm l (i + 1) (pik d (i + 2)) (by omega) (by omega)
    rw [shf]
    exact (shf_perm i _ _ (by have := hp.length_eq; omega)).trans hp

def rng (n : Nat) : List Int := (List.range n).map fun (i : Nat) => (i : Int)

theorem rng_len (n : Nat) : (rng n).length = n := by simp [rng]
theorem rng_lt (n : Nat) : (rng n).Pairwise (· < ·) := by
  unfold rng
  rw [List.pairwise_map]
  exact List.pairwise_lt_range.imp (by intro a b h; omega)
theorem rng_nodup (n : Nat) : (rng n).Nodup := (rng_lt n).imp (by intro a b h; omega)
theorem rng_mem {n : Nat} {x : Int} : x ∈ rng n ↔ 0 ≤ x ∧ x < n := by
  unfold rng
  simp only [List.mem_map, List.mem_range]
  constructor
  · rintro ⟨a, h, rfl⟩; omega
  · rintro ⟨h1, h2⟩; exact ⟨x.toNat, by omega, by omega⟩
theorem rng_succ (n : Nat) : rng (n + 1) = rng n ++ [(n : Int)] := by simp [rng, List.range_succ]

/-- The elements of l, ascending. -/
def asc (l : List Int) : List Int := l.mergeSort fun x y => decide (x ≤ y)

theorem asc_eq {n k : Nat} {l : List Int} (h : l.Perm (rng n)) : asc (l.take k) = (rng n).filter fun x => decide (x ∈ l.take k) := by
  have nd : (l.take k).Nodup := ((h.nodup_iff).2 (rng_nodup n)).sublist (List.take_sublist _ _)
  unfold asc
  refine List.Perm.eq_of_pairwise (le := fun a b => a ≤ b) (fun a b _ _ => Int.le_antisymm) ?_ ?_ ?_
  · refine (List.pairwise_mergeSort (le := fun x y : Int => decide (x ≤ y)) ?_ ?_ _).imp (by simp)
    · intro a b c; simp; omega
    · intro a b; simp; omega
  · exact ((rng_lt n).imp (by intro a b h; omega)).filter _
  · refine (List.mergeSort_perm _ _).trans ?_
    rw [List.perm_ext_iff_of_nodup nd ((rng_nodup n).filter _)]
    intro a
    simp only [List.mem_filter, decide_eq_true_eq]
    exact ⟨fun q => ⟨h.mem_iff.1 (List.mem_of_mem_take q), q⟩, fun q => q.2⟩

theorem asc_len (l : List Int) : (asc l).length = l.length := List.length_mergeSort _
theorem asc_lt {n k : Nat} {l : List Int} (h : l.Perm (rng n)) : (asc (l.take k)).Pairwise (· < ·) := by
  rw [asc_eq h]; exact (rng_lt n).filter _
theorem asc_mem {n k : Nat} {l : List Int} (h : l.Perm (rng n)) {x : Int} (hx : x ∈ asc (l.take k)) : 0 ≤ x ∧ x < n := by
  rw [asc_eq h] at hx
  exact rng_mem.1 (List.mem_filter.1 hx).1
end Go.Proofs.YtfhipkdcekffaaaGreatDoor
