/-
  Contracts: natural: digit (Knuth's division step).
-/
import Derived.Test.YtfhipkdcekffaaaGreatDoorCn5
namespace Go.Proofs.YtfhipkdcekffaaaGreatDoor
open Go Go.Vcg
attribute [local irreducible] Br

/-! ### a window of a block -/
abbrev blkW (p w s : List Nat) : Blk := ⟨(p ++ w ++ s).map lv, 76, (0, 0)⟩

theorem Heap.put_id {h : Heap} {g : Nat} {b : Blk} (hb : h g = some b) : h = h.put g b := by
  funext k
  unfold Heap.put
  split
  · rename_i e; rw [e, hb]
  · rfl

theorem Heap.put_put (h : Heap) (g : Nat) (b b' : Blk) : (h.put g b).put g b' = h.put g b' := by
  funext k
  unfold Heap.put
  split <;> rfl

theorem U32.put_ne {h : Heap} {A : Option Addr} {n c g : Nat} {xs : List Nat} (u : U32 h A n c xs) (hd : ∀ ad, A = some ad → ad.block ≠ g) (b : Blk) : U32 (h.put g b) A n c xs :=
  ⟨u.len, u.cap, u.lt, fun hn => let ⟨ad, b', e, sp, hb, hc⟩ := u.mem hn; ⟨ad, b', e, sp, (Heap.put_ne _ _ (hd _ e)).trans hb, hc⟩⟩

theorem win_get {p w s : List Nat} {k : Nat} (hk : k < w.length) : ((p ++ w ++ s).map lv)[p.length + k]? = some (lv (w.getD k 0)) := by
  rw [List.append_assoc, List.map_append, List.getElem?_append_right (by simp), List.map_append, List.getElem?_append_left (by simp; omega)]
  simp [hk]

theorem win_set {p w s : List Nat} {k y : Nat} (hk : k < w.length) : (p ++ w ++ s).set (p.length + k) y = p ++ w.set k y ++ s := by
  rw [List.append_assoc, List.set_append_right _ _ (by omega), Nat.add_sub_cancel_left, List.set_append_left _ _ hk, List.append_assoc]

theorem ld_win {h : Heap} {g k : Nat} {p w s : List Nat} (hb : h g = some (blkW p w s)) (hk : k < w.length) : LdN h (Addr.add ⟨g, p.length, none⟩ (k * 1)) [lv (w.getD k 0)] := by
  rw [Nat.mul_one]
  exact ld_of (ad := ⟨g, p.length, none⟩) rfl hb (win_get hk)

theorem st_win {h : Heap} {g k : Nat} {p w s : List Nat} {v : Value} (y : Nat) {K : Heap → Prop} (hb : h g = some (blkW p w s)) (hk : k < w.length) (hv : v = lv y)
    (hK : K (h.put g (blkW p (w.set k y) s))) :
    ∃ b : Blk, h (Addr.block (Addr.add ⟨g, p.length, none⟩ (k * 1))) = some b ∧ b.fz = (0, 0) ∧ Addr.spot (Addr.add ⟨g, p.length, none⟩ (k * 1)) = none ∧ Addr.off (Addr.add ⟨g, p.length, none⟩ (k * 1)) + 1 ≤ b.cells.length ∧
      ∀ h' : Heap, h' = Heap.put h (Addr.block (Addr.add ⟨g, p.length, none⟩ (k * 1))) { b with cells := setSeg b.cells (Addr.off (Addr.add ⟨g, p.length, none⟩ (k * 1))) [v] } → K h' := by
  rw [Nat.mul_one, addr_block, addr_off, addr_spot _ _ rfl]
  refine ⟨_, hb, rfl, rfl, by simp; omega, ?_⟩
  rintro h' rfl
  subst hv
  show K (h.put g ⟨setSeg ((p ++ w ++ s).map lv) (p.length + k) [lv y], _, _⟩)
  rw [setSeg_one _ _ y (by simp; omega), win_set hk]
  exact hK

/-! ### the arithmetic of one digit -/
section
variable {P U' V' top u2 v1 v2 B q r U V : Nat}

theorem kn_init (hU' : U' < P) (hu2 : u2 < B) (hq : top + 1 ≤ (q + 1) * v1) : (top * B + u2) * P + U' < (q + 1) * ((v1 * B + v2) * P + V') := by
  have h1 : (top * B + u2) * P + U' < (top * B + u2 + 1) * P := by rw [Nat.add_mul _ 1]; omega
  have h2 : (top * B + u2 + 1) * P ≤ ((top + 1) * B) * P := Nat.mul_le_mul_right _ (by rw [Nat.add_mul]; omega)
  have h3 : ((top + 1) * B) * P ≤ (((q + 1) * v1) * B) * P := Nat.mul_le_mul_right _ (Nat.mul_le_mul_right _ hq)
  have h4 : (((q + 1) * v1) * B) * P ≤ (q + 1) * ((v1 * B + v2) * P + V') := by
    have : (((q + 1) * v1) * B) * P = (q + 1) * ((v1 * B) * P) := by grind
    rw [this]
    exact Nat.mul_le_mul_left _ (by rw [Nat.add_mul]; omega)
  omega

theorem kn_step (hU' : U' < P) (hqr : q * v1 + r = top) (hs : r * B + u2 < q * v2) : (top * B + u2) * P + U' < q * ((v1 * B + v2) * P + V') := by
  have h1 : (top * B + u2) * P + U' < (top * B + u2 + 1) * P := by rw [Nat.add_mul _ 1]; omega
  have h2 : (top * B + u2 + 1) * P ≤ (q * (v1 * B + v2)) * P := by
    apply Nat.mul_le_mul_right
    subst hqr
    have : q * (v1 * B + v2) = q * v1 * B + q * v2 := by grind
    rw [this, Nat.add_mul]
    omega
  have h3 : (q * (v1 * B + v2)) * P ≤ q * ((v1 * B + v2) * P + V') := by
    rw [Nat.mul_assoc]
    exact Nat.mul_le_mul_left _ (by omega)
  omega

theorem kn_q (hv2 : v2 < B) (hV' : V' < P) (hU : (top * B + u2) * P + U' < B * ((v1 * B + v2) * P + V')) (hqr : q * v1 + r = top) (hr : B ≤ r) : q < B := by
  rcases Nat.lt_or_ge q B with h | h
  · exact h
  · exfalso
    have h1 : B * v1 + B ≤ top := by have := Nat.mul_le_mul_right v1 h; omega
    have h2 : (v1 * B + v2) * P + V' ≤ ((v1 + 1) * B) * P := by
      have : (v1 * B + v2 + 1) * P ≤ ((v1 + 1) * B) * P := Nat.mul_le_mul_right _ (by rw [Nat.add_mul]; omega)
      rw [Nat.add_mul _ 1] at this
      omega
    have h3 : B * (((v1 + 1) * B) * P) ≤ (top * B) * P := by
      have e : B * (((v1 + 1) * B) * P) = ((B * v1 + B) * B) * P := by grind
      rw [e]
      exact Nat.mul_le_mul_right _ (Nat.mul_le_mul_right _ h1)
    have h4 := Nat.mul_le_mul_left B h2
    rw [Nat.add_mul] at hU
    omega

theorem kn_end1 (hv2 : v2 < B) (hV' : V' < P) (hqr : q * v1 + r = top) (hr : B ≤ r) (hq : q < B) : q * ((v1 * B + v2) * P + V') ≤ (top * B + u2) * P + U' := by
  have h2 : (v1 * B + v2) * P + V' ≤ ((v1 + 1) * B) * P := by
    have : (v1 * B + v2 + 1) * P ≤ ((v1 + 1) * B) * P := Nat.mul_le_mul_right _ (by rw [Nat.add_mul]; omega)
    rw [Nat.add_mul _ 1] at this
    omega
  have h3 : q * (((v1 + 1) * B) * P) ≤ (top * B) * P := by
    have e : q * (((v1 + 1) * B) * P) = ((q * v1 + q) * B) * P := by grind
    rw [e]
    exact Nat.mul_le_mul_right _ (Nat.mul_le_mul_right _ (by omega))
  have h4 := Nat.mul_le_mul_left q h2
  have h5 : (top * B + u2) * P = top * B * P + u2 * P := Nat.add_mul _ _ _
  omega

theorem kn_end2 (hV' : V' < P) (hqr : q * v1 + r = top) (hs : q * v2 ≤ r * B + u2) (hq : q < B) (hv1 : 1 ≤ v1) : q * ((v1 * B + v2) * P + V') < (top * B + u2) * P + U' + ((v1 * B + v2) * P + V') := by
  have e : q * ((v1 * B + v2) * P + V') = (q * v1 * B + q * v2) * P + q * V' := by grind
  have h1 : (q * v1 * B + q * v2) * P ≤ (top * B + u2) * P := by
    apply Nat.mul_le_mul_right
    subst hqr
    rw [Nat.add_mul]
    omega
  have h2 : q * V' < B * P := by
    rcases Nat.eq_zero_or_pos q with h0 | h0
    · subst h0; rw [Nat.zero_mul]; exact Nat.mul_pos (by omega) (by omega)
    · exact Nat.mul_lt_mul'' hq hV'
  have h3 : B * P ≤ (v1 * B + v2) * P := by
    apply Nat.mul_le_mul_right
    have := Nat.mul_le_mul_right B hv1
    omega
  omega

theorem dig_fin0 {W : Nat} (h : W + q * V = U) (hU : U < (q + 1) * V) : U / V = q ∧ U % V = W := by
  rw [Nat.add_mul] at hU
  have hW : W < V := by omega
  subst h
  refine ⟨?_, ?_⟩
  · rw [Nat.add_mul_div_right _ _ (by omega), Nat.div_eq_of_lt hW, Nat.zero_add]
  · rw [Nat.add_mul_mod_self_right, Nat.mod_eq_of_lt hW]

theorem dig_fin1 {W W2 M x : Nat} (h : W + q * V = U + M) (hW : W < M) (h2 : W2 + M * x = W + V) (hW2 : W2 < M) (hqV : q * V < U + V) (hV : V ≤ M) : 1 ≤ q ∧ U / V = q - 1 ∧ U % V = W2 := by
  rcases q with _ | p
  · omega
  · rw [Nat.add_mul] at h hqV
    have hx : x = 1 := by
      rcases x with _ | _ | x
      · omega
      · rfl
      · rw [show M * (x + 1 + 1) = M * x + M + M from by grind] at h2
        omega
    subst hx
    have e : W2 + p * V = U := by omega
    have := dig_fin0 e (by rw [Nat.add_mul]; omega)
    exact ⟨by omega, by simpa using this.1, this.2⟩

theorem sub_step {w y q c b t w' c' b' X Y Z p : Nat} (ht : c + q * y = t) (hw : t % B32 + b + w' = w + B32 * b') (hc : c' = t / B32) (hI : X + q * Y = Z + p * (c + b)) :
    (X + p * w') + q * (Y + p * y) = (Z + p * w) + (p * B32) * (c' + b') := by
  have := Nat.mod_add_div t B32
  subst hc
  grind

theorem add_step {u y c t X Y Z p : Nat} (ht : c + (u + y) = t) (hI : X + p * c = Y + Z) : (X + p * (t % B32)) + (p * B32) * (t / B32) = (Y + p * u) + (Z + p * y) := by
  have := Nat.mod_add_div t B32
  grind

theorem sub_last {u c b x b' X V Z M : Nat} (hw : c + b + x = u + B32 * b') (hI : X + q * V = Z + M * (c + b)) : (X + M * x) + q * V = (Z + M * u) + (M * B32) * b' := by
  grind

theorem add_last {u c t X V Z M : Nat} (ht : u + c = t) (hI : X + M * c = Z + V) : (X + M * (t % B32)) + (M * B32) * (t / B32) = (Z + M * u) + V := by
  have := Nat.mod_add_div t B32
  grind
end

/-- One subtraction of limbs with borrow. -/
theorem borrow_step {a l b : Nat} (ha : a < B32) (hl : l < B32) (hb : b ≤ 1) :
    ∃ w' b', IntKind.u32.wrap (IntKind.u64.wrap (IntKind.u64.wrap ((a : Int) - (l : Int)) - (b : Int))) = ((w' : Nat) : Int) ∧ w' < B32 ∧ b' ≤ 1 ∧ Int.fdiv (IntKind.u64.wrap (IntKind.u64.wrap ((a : Int) - (l : Int)) - (b : Int))) (2 ^ (63 : Nat)) = ((b' : Nat) : Int) ∧ l + b + w' = a + B32 * b' := by
  have e : ((2 : Int) ^ (63 : Nat)) = 9223372036854775808 := by decide
  rw [e, wrap_u32_mod, Int.fdiv_eq_ediv_of_nonneg _ (by decide)]
  simp only [wrap_u64_mod]
  unfold B32 at *
  rcases Nat.lt_or_ge a (l + b) with h | h
  · refine ⟨a + 4294967296 - (l + b), 1, by omega, by omega, by omega, by omega, by omega⟩
  · refine ⟨a - (l + b), 0, by omega, by omega, by omega, by omega, by omega⟩

theorem getD_ltB {l : List Nat} (h : ∀ x ∈ l, x < B32) (i : Nat) : l.getD i 0 < B32 := by
  rcases Nat.lt_or_ge i l.length with hl | hg
  · simp [hl]; exact h _ (List.getElem_mem _)
  · simp [hg]; decide

theorem drop_two {l : List Nat} {m : Nat} (h : l.length = m + 2) : val l = (l.getD (m + 1) 0 * B32 + l.getD m 0) * B32 ^ m + val (l.take m) := by
  rw [val_split (xs := l) (k := m) (by omega), val_drop_cons (by omega), val_drop_cons (by omega), List.drop_of_length_le (by omega)]
  simp only [val]
  grind

theorem drop_three {l : List Nat} {m : Nat} (h : l.length = m + 3) : val l = ((l.getD (m + 2) 0 * B32 + l.getD (m + 1) 0) * B32 + l.getD m 0) * B32 ^ m + val (l.take m) := by
  rw [val_split (xs := l) (k := m) (by omega), val_drop_cons (by omega), val_drop_cons (by omega), val_drop_cons (by omega), List.drop_of_length_le (by omega)]
  simp only [val]
  grind

theorem val_take_lt {l : List Nat} (h : ∀ x ∈ l, x < B32) {m : Nat} (hm : m ≤ l.length) : val (l.take m) < B32 ^ m := by
  have := val_lt (l := l.take m) fun x hx => h x (List.mem_of_mem_take hx)
  rwa [List.length_take, Nat.min_eq_left hm] at this

theorem getD_of_drop_eq {a b : List Nat} {k : Nat} (h : a.drop k = b.drop k) : a.getD k 0 = b.getD k 0 := by
  have := congrArg (fun l : List Nat => l.getD 0 0) h
  simpa [getD_of_drop] using this

theorem drop_succ_of {a b : List Nat} {k : Nat} (h : a.drop k = b.drop k) : a.drop (k + 1) = b.drop (k + 1) := by
  have := congrArg (fun l : List Nat => l.drop 1) h
  simpa using this

theorem digit_c {h : Heap} {gu : Nat} {p w s vs : List Nat} {n c cv : Nat} {vA : Option Addr} (hb : h gu = some (blkW p w s)) (hw : ∀ x ∈ w, x < B32) (hwl : w.length = n + 1)
    (uv : U32 h vA n cv vs) (hd : ∀ ad, vA = some ad → ad.block ≠ gu) (hn : 2 ≤ n) (hn' : n ≤ 1099511627776) (hv1 : 1 ≤ vs.getD (n - 1) 0) (hU : val w < B32 * val vs) :
    CallsU Tryz.prog 76 [.slice (some ⟨gu, p.length, none⟩) (n + 1) c, .slice vA n cv] h fun r h' => r = .int .u32 ((val w / val vs : Nat) : Int) ∧ val w / val vs < B32 ∧
      ∃ w', w'.length = n + 1 ∧ (∀ x ∈ w', x < B32) ∧ h' = h.put gu (blkW p w' s) ∧ val w' = val w % val vs := by
  apply natural_digit_ok
  obtain ⟨m, rfl⟩ : ∃ m, n = m + 2 := ⟨n - 2, by omega⟩
  have lv' := uv.len
  have hvs : ∀ x ∈ vs, x < B32 := uv.lt
  obtain ⟨ad, hA, hld1⟩ := uv.get (i := m + 1) (by omega)
  have hB : B32 = 4294967296 := rfl
  have eV := drop_two (l := vs) (m := m) lv'
  have eU := drop_three (l := w) (m := m) hwl
  have hV' := val_take_lt hvs (m := m) (by omega)
  have hU' := val_take_lt hw (m := m) (by omega)
  have g0 := getD_ltB hw (m + 2)
  have g1 := getD_ltB hw (m + 1)
  have g2 := getD_ltB hw m
  have k1 := getD_ltB hvs (m + 1)
  have k2 := getD_ltB hvs m
  rw [show m + 2 - 1 = m + 1 from by omega] at hv1
  generalize hu0 : w.getD (m + 2) 0 = u0 at *
  generalize hu1 : w.getD (m + 1) 0 = u1 at *
  generalize hu2 : w.getD m 0 = u2 at *
  generalize hv1' : vs.getD (m + 1) 0 = v1 at *
  generalize hv2' : vs.getD m 0 = v2 at *
  generalize hV'' : val (vs.take m) = V' at *
  generalize hU'' : val (w.take m) = U' at *
  unfold natural_digit_vc
  simp only [Int.toNat_natCast]
  have ld0 := ld_win hb (k := m + 2) (by omega)
  have ld1 := ld_win hb (k := m + 1) (by omega)
  have ld2 := ld_win hb (k := m) (by omega)
  rw [hu0] at ld0
  rw [hu1] at ld1
  rw [hu2] at ld2
  refine ⟨_, rfl, by omega, by omega, _, ld0, ?_⟩
  rintro _ rfl _ rfl
  rw [wi (n := m + 1) (by omega) (by omega)]
  simp only [Int.toNat_natCast]
  refine ⟨_, rfl, by omega, by omega, _, ld1, ?_⟩
  rintro _ rfl _ rfl
  rw [shlB (n := u0) (wu rfl (by omega)) g0, or64 (hi := u0) (lo := u1) rfl (wu rfl (by omega)) g1 g0]
  simp only [Int.toNat_natCast]
  generalize htop : u0 * B32 + u1 = top at *
  have htop64 : top < 18446744073709551616 := by rw [← htop, hB]; omega
  refine ⟨ad, hA, by omega, by omega, _, hld1, ?_⟩
  rw [wu (n := v1) rfl (by omega)]
  refine Br.mk (fun q => by simp at q; omega) (fun _ => ?_)
  rintro _ rfl
  refine Br.mk (fun q => by simp at q; omega) (fun _ => ?_)
  rintro _ rfl
  have hq0 : top / v1 ≤ top := Nat.div_le_self _ _
  rw [tdivN rfl rfl, tmodN rfl rfl, wu (n := top / v1) rfl (by omega)]
  have hU2 := hU
  rw [eU, eV] at hU2
  refine ⟨fun q h1 => ∃ qN : Nat, q = (qN : Int) ∧ h = h1 ∧ qN < B32 ∧ val w < (qN + 1) * val vs ∧ qN * val vs < val w + val vs, ?_,
    fun mm q r h1 => ∃ rN : Nat, q = (mm : Int) ∧ r = (rN : Int) ∧ h = h1 ∧ mm * v1 + rN = top ∧ rN < 2 * B32 ∧ mm ≤ top ∧ val w < (mm + 1) * val vs, ⟨top / v1, top % v1, rfl, rfl, rfl, by rw [Nat.mul_comm]; exact Nat.div_add_mod _ _, ?_, hq0, ?_⟩, ?_⟩
  · -- after the trial digit
    rintro _ _ ⟨q, rfl, rfl, hq, hq1, hq2⟩
    refine ⟨fun mm c b i h' => ∃ (k cN bN : Nat) (w' : List Nat), mm = m + 2 - k ∧ k ≤ m + 2 ∧ i = (k : Int) ∧ c = (cN : Int) ∧ b = (bN : Int) ∧ cN < B32 ∧ bN ≤ 1 ∧ w'.length = m + 3 ∧ (∀ x ∈ w', x < B32) ∧ h' = h.put gu (blkW p w' s) ∧
        w'.drop k = w.drop k ∧ val (w'.take k) + q * val (vs.take k) = val (w.take k) + B32 ^ k * (cN + bN),
      ⟨m + 2, 0, 0, 0, w, rfl, by omega, rfl, rfl, rfl, by decide, by omega, hwl, hw, Heap.put_id hb, rfl, by simp [val]⟩, ?_⟩
    rintro _ _ _ _ _ ⟨k, cN, bN, w', rfl, hk, rfl, rfl, rfl, hcN, hbN, hw'l, hw', rfl, hdrop, hval⟩
    have hb' : (h.put gu (blkW p w' s)) gu = some (blkW p w' s) := Heap.put_same _ _ _
    refine Br.mk (fun z => ?_) (fun z => ?_)
    · have z' : k < m + 2 := by simp at z; omega
      obtain ⟨ad', hA', hld'⟩ := (U32.put_ne uv hd (blkW p w' s)).get (i := k) z'
      simp only [Int.toNat_natCast]
      refine ⟨ad', hA', by omega, by omega, _, hld', ?_⟩
      have hy := getD_ltB hvs k
      have hww := getD_ltB hw' k
      have hwe := getD_of_drop_eq hdrop
      have hvt := val_take_succ (xs := vs) (k := k) (by omega)
      generalize vs.getD k 0 = y at *
      rintro _ rfl _ rfl
      have hqy : q * y ≤ 4294967295 * 4294967295 := Nat.mul_le_mul (by omega) (by omega)
      rw [wu (n := y) rfl (by omega), wu (n := q * y) (Int.natCast_mul q y).symm (by omega), wu (n := cN + q * y) (Int.natCast_add _ _).symm (by omega), w32 rfl]
      generalize ht : cN + q * y = t at *
      have htl := Nat.mod_lt t (show 0 < B32 by decide)
      have htd : t / B32 < B32 := by apply Nat.div_lt_of_lt_mul; rw [hB]; omega
      refine ⟨_, rfl, by omega, by omega, _, ld_win hb' (by omega), ?_⟩
      rw [wu (n := w'.getD k 0) rfl (by omega), wu (n := t % B32) rfl (by omega)]
      rintro _ rfl _ rfl
      obtain ⟨x, b', e1, hx, hb1, e2, e3⟩ := borrow_step hww htl hbN
      rw [e1, e2, fdivB rfl, wi (n := k + 1) (by omega) (by omega)]
      refine ⟨_, rfl, by omega, by omega, st_win x hb' (by omega) rfl ?_⟩
      rintro _ rfl _ rfl _ rfl
      refine ⟨m + 2 - (k + 1), by omega, k + 1, t / B32, b', w'.set k x, rfl, by omega, rfl, rfl, rfl, htd, hb1, by simp [hw'l], mem_set hw' hx, Heap.put_put _ _ _ _, ?_, ?_⟩
      · rw [drop_set (by omega)]; exact drop_succ_of hdrop
      · rw [val_take_succ (xs := w'.set k x) (by simp; omega), take_set_ge (Nat.le_refl _), getD_set_eq (by omega), hvt, val_take_succ (xs := w) (by omega), Nat.pow_succ]
        rw [hwe] at e3
        exact sub_step ht e3 rfl hval
    · have hkn : k = m + 2 := by simp at z; omega
      subst hkn
      have hww := getD_ltB hw' (m + 2)
      have hwe := getD_of_drop_eq hdrop
      have eV2 : val (vs.take (m + 2)) = val vs := by rw [List.take_of_length_le (by omega)]
      -- (powers stay hidden from omega: it would unfold them)
      obtain ⟨M, hM, hVM, hlt3⟩ : ∃ M, (∀ z, B32 ^ (m + 2) * z = M * z) ∧ val vs < M ∧ (∀ l : List Nat, (∀ x ∈ l, x < B32) → l.length = m + 3 → val l < M * B32) :=
        ⟨_, fun _ => rfl, by have := val_lt hvs; rwa [lv'] at this, fun l h1 h2 => by have := val_lt h1; rwa [h2, Nat.pow_succ] at this⟩
      rw [hM] at hval
      have eU2 : val w = val (w.take (m + 2)) + M * u0 := by
        have := val_take_succ (xs := w) (k := m + 2) (by omega)
        rwa [List.take_of_length_le (by omega), hu0, hM] at this
      refine ⟨_, rfl, by omega, by omega, _, ld_win hb' (by omega), ?_⟩
      rw [wu (n := w'.getD (m + 2) 0) rfl (by omega)]
      rintro _ rfl _ rfl
      obtain ⟨x, b', e1, hx, hb1, e2, e3⟩ := borrow_step hww hcN hbN
      rw [e1, e2]
      refine ⟨_, rfl, by omega, by omega, st_win x hb' (by omega) rfl ?_⟩
      rw [Heap.put_put]
      rintro _ rfl
      have hw2 : ∀ y ∈ w'.set (m + 2) x, y < B32 := mem_set hw' hx
      have hw2l : (w'.set (m + 2) x).length = m + 3 := by simp [hw'l]
      have ew2 : val (w'.set (m + 2) x) = val (w'.take (m + 2)) + M * x := by
        have := val_take_succ (xs := w'.set (m + 2) x) (k := m + 2) (by omega)
        rwa [List.take_of_length_le (by omega), take_set_ge (Nat.le_refl _), getD_set_eq (by omega), hM] at this
      have hW : val (w'.set (m + 2) x) + q * val vs = val w + (M * B32) * b' := by
        rw [hwe, hu0] at e3
        rw [eV2] at hval
        rw [ew2, eU2]
        exact sub_last e3 hval
      generalize w'.set (m + 2) x = w2 at *
      refine Br.mk (fun z2 => ?_) (fun z2 => ?_)
      · have z3 : b' = 0 := by simp at z2; omega
        subst z3
        have := dig_fin0 (W := val w2) (by rw [hW, Nat.mul_zero, Nat.add_zero]) hq1
        rw [w32 rfl, Nat.mod_eq_of_lt hq]
        exact ⟨by rw [this.1], by rw [this.1]; exact hq, w2, hw2l, hw2, rfl, this.2.symm⟩
      · have z3 : b' = 1 := by simp at z2; omega
        subst z3
        refine ⟨fun mm c i h' => ∃ (k cN : Nat) (w' : List Nat), mm = m + 2 - k ∧ k ≤ m + 2 ∧ i = (k : Int) ∧ c = (cN : Int) ∧ cN ≤ 1 ∧ w'.length = m + 3 ∧ (∀ x ∈ w', x < B32) ∧ h' = h.put gu (blkW p w' s) ∧
            w'.drop k = w2.drop k ∧ val (w'.take k) + B32 ^ k * cN = val (w2.take k) + val (vs.take k),
          ⟨m + 2, 0, 0, w2, rfl, by omega, rfl, rfl, by omega, hw2l, hw2, rfl, rfl, by simp [val]⟩, ?_⟩
        rintro _ _ _ _ ⟨k, cN, w', rfl, hk, rfl, rfl, hcN, hw'l, hw', rfl, hdrop, hval⟩
        have hb' : (h.put gu (blkW p w' s)) gu = some (blkW p w' s) := Heap.put_same _ _ _
        have hwe := getD_of_drop_eq hdrop
        refine Br.mk (fun z => ?_) (fun z => ?_)
        · have z' : k < m + 2 := by simp at z; omega
          obtain ⟨ad', hA', hld'⟩ := (U32.put_ne uv hd (blkW p w' s)).get (i := k) z'
          simp only [Int.toNat_natCast]
          refine ⟨ad', hA', by omega, by omega, _, hld', ?_⟩
          refine ⟨_, rfl, by omega, by omega, _, ld_win hb' (by omega), ?_⟩
          have hy := getD_ltB hvs k
          have hww := getD_ltB hw' k
          have hvt := val_take_succ (xs := vs) (k := k) (by omega)
          generalize vs.getD k 0 = y at *
          rw [wu (n := w'.getD k 0) rfl (by omega), wu (n := y) rfl (by omega)]
          rintro _ rfl _ rfl
          rw [wu (n := w'.getD k 0 + y) (Int.natCast_add _ _).symm (by omega), wu (n := cN + (w'.getD k 0 + y)) (Int.natCast_add _ _).symm (by omega), w32 rfl, fdivB rfl, wi (n := k + 1) (by omega) (by omega)]
          generalize ht : cN + (w'.getD k 0 + y) = t at *
          have htl := Nat.mod_lt t (show 0 < B32 by decide)
          have htd : t / B32 ≤ 1 := by rw [hB]; omega
          refine ⟨_, rfl, by omega, by omega, st_win (t % B32) hb' (by omega) rfl ?_⟩
          rintro _ rfl _ rfl
          refine ⟨m + 2 - (k + 1), by omega, k + 1, t / B32, w'.set k (t % B32), rfl, by omega, rfl, rfl, htd, by simp [hw'l], mem_set hw' htl, Heap.put_put _ _ _ _, ?_, ?_⟩
          · rw [drop_set (by omega)]; exact drop_succ_of hdrop
          · rw [val_take_succ (xs := w'.set k (t % B32)) (by simp; omega), take_set_ge (Nat.le_refl _), getD_set_eq (by omega), hvt, val_take_succ (xs := w2) (by omega), Nat.pow_succ, ← hwe]
            exact add_step ht hval
        · have hkn : k = m + 2 := by simp at z; omega
          subst hkn
          rw [hM] at hval
          have hww := getD_ltB hw' (m + 2)
          refine ⟨_, rfl, by omega, by omega, _, ld_win hb' (by omega), ?_⟩
          rw [w32 (n := cN) rfl, Nat.mod_eq_of_lt (by omega)]
          rintro _ rfl
          rw [w32 (n := w'.getD (m + 2) 0 + cN) (Int.natCast_add _ _).symm]
          generalize ht : w'.getD (m + 2) 0 + cN = t at *
          have htl := Nat.mod_lt t (show 0 < B32 by decide)
          refine ⟨_, rfl, by omega, by omega, st_win (t % B32) hb' (by omega) rfl ?_⟩
          rintro _ rfl
          have ew3 : val (w'.set (m + 2) (t % B32)) = val (w'.take (m + 2)) + M * (t % B32) := by
            have := val_take_succ (xs := w'.set (m + 2) (t % B32)) (k := m + 2) (by simp; omega)
            rwa [List.take_of_length_le (by simp; omega), take_set_ge (Nat.le_refl _), getD_set_eq (by omega), hM] at this
          have ew2' : val w2 = val (w2.take (m + 2)) + M * w2.getD (m + 2) 0 := by
            have := val_take_succ (xs := w2) (k := m + 2) (by omega)
            rwa [List.take_of_length_le (by omega), hM] at this
          have hW3 : val (w'.set (m + 2) (t % B32)) + (M * B32) * (t / B32) = val w2 + val vs := by
            rw [ew3, ew2', ← hwe]
            rw [eV2] at hval
            exact add_last ht hval
          have hw3 := mem_set (i := m + 2) hw' htl
          have hw3l : (w'.set (m + 2) (t % B32)).length = m + 3 := by simp [hw'l]
          have l2 := hlt3 _ hw2 hw2l
          have l3 := hlt3 _ hw3 hw3l
          have hMM : M * 1 ≤ M * B32 := Nat.mul_le_mul_left _ (by decide)
          obtain ⟨r1, r2, r3⟩ := dig_fin1 (by rw [hW, Nat.mul_one]) l2 hW3 l3 hq2 (by omega)
          rw [wu (n := q - 1) (by omega) (by omega), w32 rfl, Nat.mod_eq_of_lt (by omega)]
          exact ⟨by rw [r2], by rw [r2]; omega, _, hw3l, hw3, Heap.put_put _ _ _ _, r3.symm⟩
  · have := Nat.mod_lt top (show 0 < v1 by omega)
    omega
  · rw [eU, eV]
    exact kn_init hU' g2 (by have := Nat.lt_mul_div_succ top (show 0 < v1 by omega); rw [Nat.mul_comm]; omega)
  · rintro mm q0 r0 h0 ⟨rN, hq0', hr0, hh0, hqr, hr, hmt, hI⟩
    subst hh0
    subst hr0
    subst hq0'
    refine Br.mk (fun z => ?_) (fun z => ?_)
    · have z1 : rN < B32 := by simp at z; omega
      have next : ∀ (hx : val w < mm * val vs), ∀ t72 : Int, t72 = IntKind.u64.wrap ((mm : Int) - 1) → ∀ t75 : Int, t75 = IntKind.u64.wrap ((rN : Int) + (v1 : Int)) →
          ∃ m_5, m_5 < mm ∧ ∃ rN : Nat, t72 = (m_5 : Int) ∧ t75 = (rN : Int) ∧ h = h ∧ m_5 * v1 + rN = top ∧ rN < 2 * B32 ∧ m_5 ≤ top ∧ val w < (m_5 + 1) * val vs := by
        rintro hx _ rfl _ rfl
        have h1 : 1 ≤ mm := by
          rcases mm with _ | k
          · simp at hx
          · omega
        obtain ⟨k, rfl⟩ : ∃ k, mm = k + 1 := ⟨mm - 1, by omega⟩
        refine ⟨k, by omega, rN + v1, by rw [wu (n := k) (by omega) (by omega)], by rw [wu (n := rN + v1) (by omega) (by omega)], rfl, ?_, by omega, by omega, hx⟩
        rw [Nat.add_mul] at hqr
        omega
      refine Br.mk (fun z2 => ?_) (fun z2 => ?_)
      · have z3 : B32 ≤ mm := by simp at z2; omega
        exact next (Nat.lt_of_lt_of_le hU (Nat.mul_le_mul_right _ z3))
      · have z3 : mm < B32 := by simp at z2; omega
        rintro _ rfl
        rw [wi (n := m) (by omega) (by omega), Int.toNat_natCast]
        obtain ⟨ad', hA', hld'⟩ := uv.get (i := m) (by omega)
        rw [hv2'] at hld'
        refine ⟨ad', hA', by omega, by omega, _, hld', ?_⟩
        rintro _ rfl _ rfl _ rfl
        refine ⟨_, rfl, by omega, by omega, _, ld2, ?_⟩
        rintro _ rfl
        have hqv : mm * v2 ≤ 4294967295 * 4294967295 := Nat.mul_le_mul (by omega) (by omega)
        rw [wu (n := v2) rfl (by omega), wu (n := mm * v2) (Int.natCast_mul mm v2).symm (by omega), shlB rfl z1, or64 (hi := rN) (lo := u2) rfl (wu rfl (by omega)) g2 z1]
        refine Br.mk (fun z4 => ?_) (fun z4 => ?_)
        · have z5 : rN * B32 + u2 < mm * v2 := by simp at z4; omega
          exact next (by rw [eU, eV]; exact kn_step hU' hqr z5)
        · have z5 : mm * v2 ≤ rN * B32 + u2 := by simp at z4; omega
          exact ⟨mm, rfl, rfl, z3, hI, by rw [eU, eV]; exact kn_end2 hV' hqr z5 z3 hv1⟩
    · have z1 : B32 ≤ rN := by simp at z; omega
      have hq := kn_q k2 hV' hU2 hqr z1
      refine ⟨mm, rfl, rfl, hq, hI, ?_⟩
      have := kn_end1 (u2 := u2) (U' := U') k2 hV' hqr z1 hq
      rw [← eU, ← eV] at this
      have hpos : 0 < val vs := by
        rcases Nat.eq_zero_or_pos (val vs) with h0 | h0
        · rw [h0] at hI; omega
        · exact h0
      omega
end Go.Proofs.YtfhipkdcekffaaaGreatDoor
