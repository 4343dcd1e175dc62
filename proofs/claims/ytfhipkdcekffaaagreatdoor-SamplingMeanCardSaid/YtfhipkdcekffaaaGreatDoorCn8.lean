/-
  Contracts: natural: DivMod.
-/
import Derived.Test.YtfhipkdcekffaaaGreatDoorCn7
namespace Go.Proofs.YtfhipkdcekffaaaGreatDoor
open Go Go.Vcg
attribute [local irreducible] Br

/-! ### the long division, on lists -/
theorem dm_split (us : List Nat) (i k : Nat) : us = us.take i ++ (us.drop i).take k ++ us.drop (i + k) := by
  rw [List.append_assoc, ← List.drop_drop, List.take_append_drop, List.take_append_drop]

theorem dm_win {us : List Nat} {i m V : Nat} (hl : i + m + 1 ≤ us.length) (hus : ∀ x ∈ us, x < B32) (hV : V < B32 ^ m) (hr : val (us.drop (i + 1)) < V) :
    ((us.drop i).take (m + 1)).length = m + 1 ∧ val ((us.drop i).take (m + 1)) < B32 * V ∧ val (us.drop (i + (m + 1))) = 0 := by
  have hwl : ((us.drop i).take (m + 1)).length = m + 1 := by simp; omega
  have hi := getD_ltB hus i
  have e1 : val (us.drop i) = us.getD i 0 + B32 * val (us.drop (i + 1)) := val_drop_cons (by omega)
  have e2 : val (us.drop i) = val ((us.drop i).take (m + 1)) + B32 ^ (m + 1) * val (us.drop (i + (m + 1))) := by
    have := val_split (xs := us.drop i) (k := m + 1) (by simp; omega)
    rwa [List.drop_drop] at this
  have h3 : val (us.drop i) < B32 * V := by
    have : B32 * (val (us.drop (i + 1)) + 1) ≤ B32 * V := Nat.mul_le_mul_left _ hr
    rw [Nat.mul_add] at this
    omega
  have h4 : B32 * V ≤ B32 ^ (m + 1) := by rw [Nat.pow_succ, Nat.mul_comm]; exact Nat.mul_le_mul_right _ (Nat.le_of_lt hV)
  refine ⟨hwl, by omega, ?_⟩
  generalize B32 ^ (m + 1) = M at *
  rcases Nat.eq_zero_or_pos (val (us.drop (i + (m + 1)))) with h0 | h0
  · exact h0
  · have := Nat.mul_le_mul_left M h0
    omega

theorem dm_new {us w' : List Nat} {i m V : Nat} (hl : i + m + 1 ≤ us.length) (hV : 0 < V) (hwl : ((us.drop i).take (m + 1)).length = m + 1) (hs : val (us.drop (i + (m + 1))) = 0) (hw'l : w'.length = m + 1)
    (hw' : val w' = val ((us.drop i).take (m + 1)) % V) :
    val (us.take i ++ w' ++ us.drop (i + (m + 1))) + B32 ^ i * ((val ((us.drop i).take (m + 1)) / V) * V) = val us ∧ val ((us.take i ++ w' ++ us.drop (i + (m + 1))).drop i) < V ∧
      (us.take i ++ w' ++ us.drop (i + (m + 1))).length = us.length := by
  have hti : (us.take i).length = i := by simp; omega
  refine ⟨?_, ?_, ?_⟩
  · conv => rhs; rw [dm_split us i (m + 1)]
    rw [List.append_assoc, List.append_assoc, val_append, val_append, val_append, val_append, hs, hti, Nat.mul_zero, Nat.mul_zero, Nat.add_zero, Nat.add_zero, hw', Nat.add_assoc, ← Nat.mul_add]
    rw [Nat.mul_comm _ V, Nat.mod_add_div]
    simp only [Nat.add_zero]
  · rw [List.append_assoc, List.drop_append_of_le_length (by omega), List.drop_of_length_le (by omega), List.nil_append, val_append, hs, Nat.mul_zero, Nat.add_zero, hw']
    exact Nat.mod_lt _ hV
  · simp [hw'l]; omega

theorem dm_inv {us us' qs : List Nat} {i V q U : Nat} (hq : i < qs.length) (h1 : val us' + B32 ^ i * (q * V) = val us) (hI : val us + B32 ^ (i + 1) * (val (qs.drop (i + 1)) * V) = U) :
    val us' + B32 ^ i * (val ((qs.set i q).drop i) * V) = U := by
  rw [val_drop_cons (by simp; exact hq), getD_set_eq hq, drop_set (by omega), Nat.add_mul, Nat.mul_add, ← Nat.add_assoc, h1]
  rw [Nat.pow_succ] at hI
  rw [← hI]
  congr 1
  generalize B32 ^ i = M
  grind

theorem dm_end {u q x y s : Nat} (hs : 0 < s) (h : u + q * (y * s) = x * s) (hu : u < y * s) : q = x / y ∧ u / s = x % y := by
  have hy : 0 < y := by
    rcases Nat.eq_zero_or_pos y with h0 | h0
    · rw [h0, Nat.zero_mul] at hu; omega
    · exact h0
  have h1 : (x * s) / (y * s) = q := by rw [← h, Nat.add_mul_div_right _ _ (by omega), Nat.div_eq_of_lt hu, Nat.zero_add]
  have h2 : (x * s) % (y * s) = u := by rw [← h, Nat.add_mul_mod_self_right, Nat.mod_eq_of_lt hu]
  rw [Nat.mul_div_mul_right _ _ hs] at h1
  rw [Nat.mul_mod_mul_right] at h2
  exact ⟨h1.symm, by rw [← h2, Nat.mul_div_cancel _ hs]⟩

/-- A number in normal form with two limbs or more. -/
theorem nrm_top {ys : List Nat} {k : Nat} (hy : ∀ x ∈ ys, x < B32) (hn : Nrm ys) (hl : ys.length = k + 1) : ys.getD k 0 ≠ 0 ∧ val ys = val (ys.take k) + B32 ^ k * ys.getD k 0 ∧ val (ys.take k) < B32 ^ k := by
  refine ⟨?_, ?_, val_take_lt hy (by omega)⟩
  · intro h0
    apply hn
    rw [List.getLast?_eq_getElem?, hl, Nat.add_sub_cancel]
    simp only [List.getD_eq_getElem?_getD] at h0
    rw [List.getElem?_eq_getElem (by omega)] at h0 ⊢
    simpa using h0
  · have := val_take_succ (xs := ys) (k := k) (by omega)
    rwa [List.take_of_length_le (by omega)] at this

/-- The divisor, shifted: it fits its limbs, and its top limb is not 0. -/
theorem dm_shift {ys vs : List Nat} {k t : Nat} (hy : ∀ x ∈ ys, x < B32) (hn : Nrm ys) (hl : ys.length = k + 1) (ht : t ≤ 32) (hlen : ys.getD k 0 < 2 ^ t) (hv : val vs = val ys * 2 ^ (32 - t)) (hvs : ∀ x ∈ vs, x < B32) (hvl : vs.length = k + 2) :
    val (vs.take (k + 1)) = val ys * 2 ^ (32 - t) ∧ 1 ≤ (vs.take (k + 1)).getD k 0 ∧ val (vs.take (k + 1)) < B32 ^ (k + 1) ∧ B32 ^ k ≤ val ys := by
  obtain ⟨h1, h2, h3⟩ := nrm_top hy hn hl
  have hp : 0 < 2 ^ (32 - t) := Nat.pow_pos (by decide)
  have hge : B32 ^ k ≤ val ys := by
    have := Nat.mul_le_mul_left (B32 ^ k) (show 1 ≤ ys.getD k 0 by omega)
    omega
  have hlt : val ys * 2 ^ (32 - t) < B32 ^ (k + 1) := by
    have a : val ys < B32 ^ k * 2 ^ t := by
      have := Nat.mul_le_mul_left (B32 ^ k) (show ys.getD k 0 + 1 ≤ 2 ^ t by omega)
      rw [Nat.mul_add] at this
      omega
    have b : val ys * 2 ^ (32 - t) < (B32 ^ k * 2 ^ t) * 2 ^ (32 - t) := Nat.mul_lt_mul_of_pos_right a hp
    rwa [Nat.mul_assoc, ← Nat.pow_add, show t + (32 - t) = 32 from by omega] at b
  have e : val vs = val (vs.take (k + 1)) + B32 ^ (k + 1) * vs.getD (k + 1) 0 := by
    have := val_take_succ (xs := vs) (k := k + 1) (by omega)
    rwa [List.take_of_length_le (by omega)] at this
  have h0 : vs.getD (k + 1) 0 = 0 := by
    rcases Nat.eq_zero_or_pos (vs.getD (k + 1) 0) with z | z
    · exact z
    · have := Nat.mul_le_mul_left (B32 ^ (k + 1)) z
      generalize B32 ^ (k + 1) = M at *
      omega
  rw [h0, Nat.mul_zero, Nat.add_zero] at e
  have e2 : val (vs.take (k + 1)) = val (vs.take k) + B32 ^ k * vs.getD k 0 := val_take_succ (by omega)
  have e3 : val (vs.take k) < B32 ^ k := val_take_lt hvs (by omega)
  have e4 : (vs.take (k + 1)).getD k 0 = vs.getD k 0 := by simp
  refine ⟨by rw [← e, hv], ?_, by rw [← e, hv]; exact hlt, hge⟩
  rw [e4]
  rcases Nat.eq_zero_or_pos (vs.getD k 0) with z | z
  · rw [z, Nat.mul_zero, Nat.add_zero] at e2
    have : val ys * 1 ≤ val ys * 2 ^ (32 - t) := Nat.mul_le_mul_left _ hp
    omega
  · exact z

theorem dm_first {ls : List Nat} {x y s n k : Nat} (hll : ls.length = n + 1) (hv : val ls = x * s) (hx : x < B32 ^ n) (hy : B32 ^ k ≤ y) (hs : 0 < s) (hk : k + 1 ≤ n) : val (ls.drop (n - k)) < y * s := by
  have e := val_split (xs := ls) (k := n - k) (by omega)
  have h1 : B32 ^ (n - k) * val (ls.drop (n - k)) ≤ x * s := by omega
  have h2 : x * s < (B32 ^ (n - k) * B32 ^ k) * s := by
    rw [← Nat.pow_add, show n - k + k = n from by omega]
    exact Nat.mul_lt_mul_of_pos_right hx hs
  have h3 : (B32 ^ (n - k) * B32 ^ k) * s ≤ B32 ^ (n - k) * (y * s) := by
    rw [Nat.mul_assoc]
    exact Nat.mul_le_mul_left _ (Nat.mul_le_mul_right _ hy)
  exact Nat.lt_of_mul_lt_mul_left (Nat.lt_of_le_of_lt h1 (Nat.lt_of_lt_of_le h2 h3))

theorem addr_add0 (g i : Nat) : Addr.add ⟨g, 0, none⟩ (i * 1) = ⟨g, i, none⟩ := by simp [Addr.add]; exact fun e => e.symm

theorem NmN.nil (h : Heap) (A : Option Addr) (c : Nat) : NmN h A 0 c 0 := ⟨[], U32.nil h A c, rfl, nrm_nil⟩

theorem divmod_0 {h : Heap} {A B : Option Addr} {n c m d x : Nat} (ux : IsN h A n c x) (uy : IsN h B m d 0) (hn : n ≤ 1099511627776) (hm : m ≤ 1099511627776) :
    CallsU Tryz.prog 50 [.slice A n c, .slice B m d] h fun r h' => r = .tuple #[.slice none 0 0, .slice none 0 0, .bool false] ∧ h = h' := by
  apply natural_DivMod_ok
  refine (trim_n ux (by omega)).mono ?_
  rintro _ _ ⟨n', rfl, hn', nx, rfl⟩
  refine ⟨_, _, _, rfl, (trim_n uy (by omega)).mono ?_⟩
  rintro _ _ ⟨m', rfl, hm', ny, rfl⟩
  refine ⟨_, _, _, rfl, Br.mk (fun _ => ⟨rfl, rfl⟩) (fun q => ?_)⟩
  have := NmN.zero_iff ny
  simp at q
  omega

theorem divmod_c {h : Heap} {A B : Option Addr} {n c m d x y : Nat} (ux : IsN h A n c x) (uy : IsN h B m d y) (hn : n ≤ 1099511627776) (hm : m ≤ 1099511627776) (hy : y ≠ 0) :
    CallsU Tryz.prog 50 [.slice A n c, .slice B m d] h fun r h' => ∃ A1 n1 c1 A2 n2 c2, r = .tuple #[.slice A1 n1 c1, .slice A2 n2 c2, .bool true] ∧ NmN h' A1 n1 c1 (x / y) ∧ NmN h' A2 n2 c2 (x % y) ∧ Le h h' := by
  apply natural_DivMod_ok
  have hB : B32 = 4294967296 := rfl
  refine (trim_n ux (by omega)).mono ?_
  rintro _ _ ⟨n', rfl, hn', nx, rfl⟩
  refine ⟨_, _, _, rfl, (trim_n uy (by omega)).mono ?_⟩
  rintro _ _ ⟨m', rfl, hm', ny, rfl⟩
  have hz := NmN.zero_iff ny
  refine ⟨_, _, _, rfl, Br.mk (fun q => by simp at q; omega) (fun q => ?_)⟩
  have hm0 : m' ≠ 0 := fun e => hy (hz.1 e)
  refine (cmp_c nx.is ny.is (by omega) (by omega)).mono ?_
  rintro _ _ ⟨rfl, rfl⟩
  refine ⟨_, rfl, Br.mk (fun q1 => ?_) (fun q1 => ?_)⟩
  · have hlt : x < y := by unfold cmpI at q1; simp at q1; omega
    refine (norm_c nx.is (by omega)).mono ?_
    rintro _ _ ⟨A', k, c', rfl, _, hN, hl⟩
    exact ⟨_, _, _, rfl, _, _, _, _, _, _, rfl, by rw [Nat.div_eq_of_lt hlt]; exact NmN.nil _ _ _, by rw [Nat.mod_eq_of_lt hlt]; exact hN, hl⟩
  · have hge : y ≤ x := by unfold cmpI at q1; simp at q1; omega
    refine Br.mk (fun q2 => ?_) (fun q2 => ?_)
    · have h1 : m' = 1 := by simp at q2; omega
      subst h1
      obtain ⟨ys, uy', ey, _⟩ := ny
      obtain ⟨ad, hA, hld⟩ := uy'.get (i := 0) (by omega)
      have ly := uy'.len
      have hyl : ys.getD 0 0 = y := by
        rw [← ey]
        match ys, ly with
        | [a], _ => simp [val]
      have hyB : y < B32 := by rw [← hyl]; exact uy'.getD_lt 0
      rw [hyl] at hld
      refine ⟨ad, hA, by omega, by omega, _, hld, (short_c nx.is (by omega) (by omega) hyB).mono ?_⟩
      rintro _ h2 ⟨A', k, c', rfl, hN, hl⟩
      refine ⟨_, _, _, _, rfl, ?_⟩
      have hr : x % y < y := Nat.mod_lt _ (by omega)
      rw [wu (n := x % y) rfl (by omega)]
      refine (of_c (x % y) (by omega) h2).mono ?_
      rintro _ h3 ⟨A2, k2, c2, rfl, _, hN2, hl2⟩
      exact ⟨_, _, _, rfl, _, _, _, _, _, _, rfl, hN.mono hl2, hN2, hl.trans hl2⟩
    · have h2 : m' ≠ 1 := by simp at q2; omega
      obtain ⟨k, rfl⟩ : ∃ k, m' = k + 2 := ⟨m' - 2, by omega⟩
      obtain ⟨xs, ux', ex, nrx⟩ := nx
      obtain ⟨ys, uy', ey, nry⟩ := ny
      have lx := ux'.len
      have ly := uy'.len
      have hxs : ∀ z ∈ xs, z < B32 := ux'.lt
      have hys : ∀ z ∈ ys, z < B32 := uy'.lt
      have ht0 := (nrm_top hys nry ly).1
      rintro _ rfl
      rw [wi (n := k + 1) (by omega) (by omega)]
      simp only [Int.toNat_natCast]
      obtain ⟨ad, hA, hld⟩ := uy'.get (i := k + 1) (by omega)
      refine ⟨ad, hA, by omega, by omega, _, hld, (lead32_c _ (uy'.getD_lt _) _).mono ?_⟩
      rintro _ _ ⟨t, rfl, ht, hlen, rfl⟩
      have ht1 := (hlen.2 ht0).1
      refine ⟨_, rfl, (left_c ux' (by omega) (sN := 32 - t) (by omega)).mono ?_⟩
      rintro _ _ ⟨gu, ls, rfl, hgu, rfl, lll, hls, hlv⟩
      refine ⟨_, _, _, rfl, (left_c (uy'.mono (Le.new hgu _)) (by omega) (sN := 32 - t) (by omega)).mono ?_⟩
      rintro _ _ ⟨gv, vs, rfl, hgv, rfl, lvl, hvs, hvv⟩
      obtain ⟨e1, e2, e3, e4⟩ := dm_shift hys nry ly ht hlen.1 hvv hvs lvl
      have hp : 0 < 2 ^ (32 - t) := Nat.pow_pos (by decide)
      have hnk : k + 1 < n' := by
        have h1 : B32 ^ (k + 1) < B32 ^ n' := Nat.lt_of_le_of_lt e4 (by rw [ey]; exact Nat.lt_of_le_of_lt hge (by rw [← ex, ← lx]; exact val_lt hxs))
        exact (Nat.pow_lt_pow_iff_right (by decide)).1 h1
      have hfirst := dm_first (x := x) (y := y) (n := n') (k := k + 1) lll (by rw [hlv, ex]) (by rw [← ex, ← lx]; exact val_lt hxs) (by rw [← ey]; exact e4) hp hnk
      rw [ey] at e1
      rw [ex] at hlv
      have hV0 : 0 < val (vs.take (k + 2)) := by rw [e1]; exact Nat.mul_pos (by omega) hp
      have hvl2 : (vs.take (k + 2)).length = k + 2 := by simp; omega
      have hVlt := e3
      rw [← e1] at hfirst
      refine ⟨_, _, _, rfl, by omega, by omega, ?_⟩
      rintro _ rfl
      rw [wi (n := n' - (k + 1)) (by omega) (by omega)]
      simp only [Int.toNat_natCast]
      refine ⟨by omega, by omega, by omega, by omega, ?_⟩
      rintro g _ hg rfl _ rfl
      have hguv : gu ≠ gv := fun e => by rw [e, Heap.put_same] at hgv; cases hgv
      have hgg : g ≠ gv := fun e => by rw [e, Heap.put_same] at hg; cases hg
      have hggu : g ≠ gu := fun e => by rw [Heap.put_ne _ _ hgg, e, Heap.put_same] at hg; cases hg
      have hg0 : h gv = none := by rw [Heap.put_ne _ _ hguv.symm] at hgv; exact hgv
      have hg1 : h g = none := by rw [Heap.put_ne _ _ hgg, Heap.put_ne _ _ hggu] at hg; exact hg
      have hwin : ∀ (us : List Nat) (i : Nat), i + (k + 2) + 1 ≤ us.length → (∀ x ∈ us, x < B32) → val (us.drop (i + 1)) < val (vs.take (k + 2)) → _ := fun us i a b c => dm_win (m := k + 2) a b e3 c
      have hend : ∀ us : List Nat, us.length = n' + 1 → val us < val (vs.take (k + 2)) → val (us.take (k + 2)) = val us := fun us a b => by
        have e := val_split (xs := us) (k := k + 2) (by omega)
        have e3' : val (vs.take (k + 2)) < B32 ^ (k + 2) := e3
        rcases Nat.eq_zero_or_pos (val (us.drop (k + 2))) with z | z
        · rw [z, Nat.mul_zero, Nat.add_zero] at e; exact e.symm
        · have := Nat.mul_le_mul_left (B32 ^ (k + 2)) z
          generalize B32 ^ (k + 2) = M at *
          omega
      clear e3 e4 hVlt
      generalize hVd : val (vs.take (k + 2)) = V at *
      refine ⟨fun mm i h' => ∃ (us qs : List Nat), i = (mm : Int) - 1 ∧ mm ≤ n' - (k + 1) ∧ us.length = n' + 1 ∧ (∀ z ∈ us, z < B32) ∧ qs.length = n' - (k + 1) ∧ (∀ z ∈ qs, z < B32) ∧
          h' gu = some ⟨us.map lv, 76, (0, 0)⟩ ∧ h' gv = some ⟨vs.map lv, 76, (0, 0)⟩ ∧ h' g = some ⟨qs.map lv, 76, (0, 0)⟩ ∧ Le h h' ∧
          val (us.drop mm) < V ∧ val us + B32 ^ mm * (val (qs.drop mm) * V) = x * 2 ^ (32 - t),
        ⟨n' - (k + 1), ls, List.replicate (n' - (k + 1)) 0, by rw [wrap_i64 (by omega) (by omega)], by omega, lll, hls, by simp, fun x hx => by rw [List.mem_replicate] at hx; rw [hx.2]; decide,
          by rw [Heap.put_ne _ _ hggu.symm, Heap.put_ne _ _ hguv, Heap.put_same], by rw [Heap.put_ne _ _ hgg.symm, Heap.put_same], by rw [Heap.put_same, repV_lv],
          (((Le.new hgu _).put hg0 _).put hg1 _), hfirst, by rw [List.drop_of_length_le (by simp), hlv]; simp [val]⟩, ?_⟩
      rintro mm _ h' ⟨us, qs, rfl, hmm, hul, hus, hql, hqs, hbu, hbv, hbq, hl, hlt, hI⟩
      refine Br.mk (fun z => ?_) (fun z => ?_)
      · have z' : 1 ≤ mm := by simp at z; omega
        obtain ⟨i, rfl⟩ : ∃ i, mm = i + 1 := ⟨mm - 1, by omega⟩
        rw [show ((i + 1 : Nat) : Int) - 1 = (i : Int) from by omega]
        rintro _ rfl _ rfl
        rw [wi (a := (i : Int) + ((k + 2 : Nat) : Int)) (n := i + (k + 2)) (by omega) (by omega), wi (n := i + (k + 2) + 1) (by omega) (by omega)]
        simp only [Int.toNat_natCast]
        rw [show i + (k + 2) + 1 - i = k + 2 + 1 from by omega, if_neg (by omega), Option.map_some, addr_add0]
        obtain ⟨w1, w2, w3⟩ := hwin us i (by omega) hus hlt
        have hbw : h' gu = some (blkW (us.take i) ((us.drop i).take (k + 2 + 1)) (us.drop (i + (k + 2 + 1)))) := by
          show h' gu = some ⟨(us.take i ++ (us.drop i).take (k + 2 + 1) ++ us.drop (i + (k + 2 + 1))).map lv, _, _⟩
          rw [← dm_split]; exact hbu
        have huv := U32.of_blk (m := k + 2) (k := k + 2 + 1) hbv hvs (by omega) (by omega)
        have hdig := digit_c (c := n' + 1 - i) hbw (fun x hx => hus x (List.mem_of_mem_drop (List.mem_of_mem_take hx))) w1 huv (fun ad e => by cases e; exact hguv.symm) (by omega) (by omega) (by simpa using e2) (by rw [hVd]; exact w2)
        rw [show (us.take i).length = i from by simp; omega, hVd] at hdig
        refine ⟨by omega, by omega, by omega, by omega, hdig.mono ?_⟩
        rintro _ _ ⟨rfl, hqlt, w', hw'l, hw', rfl, hw'v⟩
        obtain ⟨n1, n2, n3⟩ := dm_new (by omega) hV0 w1 w3 hw'l hw'v
        generalize val ((us.drop i).take (k + 2 + 1)) / V = q at *
        refine ⟨_, rfl, _, rfl, by omega, by omega, st_own q (rs := qs) ((Heap.put_ne _ _ hggu).trans hbq) (by omega) rfl ?_⟩
        rintro _ rfl
        rw [wrap_i64 (by omega) (by omega)]
        refine ⟨i, by omega, us.take i ++ w' ++ us.drop (i + (k + 2 + 1)), qs.set i q, rfl, by omega, by rw [n3, hul], ?_, by simp [hql], mem_set hqs hqlt, ?_, ?_, Heap.put_same _ _ _, ?_, n2, dm_inv (by omega) n1 hI⟩
        · intro y hy'
          rcases List.mem_append.1 hy' with z1 | z1
          · rcases List.mem_append.1 z1 with z2 | z2
            · exact hus _ (List.mem_of_mem_take z2)
            · exact hw' _ z2
          · exact hus _ (List.mem_of_mem_drop z1)
        · rw [Heap.put_ne _ _ hggu.symm, Heap.put_same]
        · rw [Heap.put_ne _ _ hgg.symm, Heap.put_ne _ _ hguv.symm]; exact hbv
        · exact (hl.put hgu _).put hg1 _
      · have z' : mm = 0 := by simp at z; omega
        subst z'
        rw [List.drop_zero] at hlt hI
        rw [Nat.pow_zero, Nat.one_mul] at hI
        rw [e1] at hlt hI
        obtain ⟨r1, r2⟩ := dm_end hp hI hlt
        have uq := U32.of_blk (m := n' - (k + 1)) (k := n' - (k + 1)) hbq hqs (by omega) (Nat.le_refl _)
        rw [List.take_of_length_le (by omega)] at uq
        refine ⟨by omega, by omega, (trim_n ⟨_, uq, rfl⟩ (by omega)).mono ?_⟩
        rintro _ _ ⟨m2, rfl, hm2, hN, rfl⟩
        have uu := U32.of_blk (m := k + 2) (k := n' + 1) hbu hus (by omega) (by omega)
        refine ⟨_, _, _, rfl, (right_c ⟨_, uu, rfl⟩ (by omega) (by omega)).mono ?_⟩
        rintro _ _ ⟨A2, k2, c2, rfl, hN2, hl2⟩
        rw [hend us hul (by rw [e1]; exact hlt), r2] at hN2
        rw [r1] at hN
        exact ⟨_, _, _, rfl, _, _, _, _, _, _, rfl, hN.mono hl2, hN2, hl.trans hl2⟩
end Go.Proofs.YtfhipkdcekffaaaGreatDoor
