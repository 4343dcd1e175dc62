/-
  Slices of values of one cell each, for any encoding; a slice that grows by append.
-/
import Derived.Test.YtfhipkdcekffaaaGreatDoorCn10
namespace Go.Proofs.YtfhipkdcekffaaaGreatDoor
open Go Go.Vcg
attribute [local irreducible] Br

abbrev iv (x : Int) : Value := .int .i64 x
abbrev sv (x : List UInt8) : Value := .string ⟨x.toArray⟩

structure Sl {α : Type} (enc : α → Value) (h : Heap) (A : Option Addr) (n c : Nat) (xs : List α) : Prop where
  len : xs.length = n
  cap : n ≤ c
  mem : 0 < n → ∃ ad b, A = some ad ∧ ad.spot = none ∧ h ad.block = some b ∧ (b.cells.drop ad.off).take n = xs.map enc

section
variable {α : Type} {enc : α → Value} {h h' : Heap} {A : Option Addr} {n c : Nat} {xs : List α}

theorem Sl.mono (u : Sl enc h A n c xs) (l : Le h h') : Sl enc h' A n c xs :=
  ⟨u.len, u.cap, fun hn => let ⟨ad, b, e, sp, hb, hc⟩ := u.mem hn; ⟨ad, b, e, sp, l _ _ hb, hc⟩⟩

theorem Sl.nil (h : Heap) (A : Option Addr) (c : Nat) : Sl enc h A 0 c [] := ⟨rfl, Nat.zero_le _, fun e => absurd e (Nat.lt_irrefl 0)⟩

theorem Sl.get (u : Sl enc h A n c xs) {i : Nat} {x : α} (hx : xs[i]? = some x) : ∃ ad, A = some ad ∧ LdN h (ad.add (i * 1)) [enc x] := by
  have hi : i < n := by rw [← u.len]; exact (List.getElem?_eq_some_iff.1 hx).1
  obtain ⟨ad, b, e, sp, hb, hc⟩ := u.mem (by omega)
  refine ⟨ad, e, ?_⟩
  rw [Nat.mul_one]
  refine ld_of sp hb ?_
  have h1 : ((b.cells.drop ad.off).take n)[i]? = (xs.map enc)[i]? := by rw [hc]
  rw [List.getElem?_take_of_lt hi, List.getElem?_drop] at h1
  rw [h1, List.getElem?_map, hx]
  rfl

theorem Sl.take (u : Sl enc h A n c xs) {m : Nat} (hm : m ≤ n) : Sl enc h A m c (xs.take m) where
  len := by rw [List.length_take, u.len]; omega
  cap := Nat.le_trans hm u.cap
  mem h0 := by
    obtain ⟨ad, b, e, sp, hb, hc⟩ := u.mem (by omega)
    refine ⟨ad, b, e, sp, hb, ?_⟩
    rw [List.map_take, ← hc, List.take_take, Nat.min_eq_left hm]

theorem Sl.rds (u : Sl enc h A n c xs) : RdS h A (n * 1) (xs.map enc) := by
  refine ⟨by simp [u.len], fun hn => ?_⟩
  obtain ⟨ad, b, e, sp, hb, hc⟩ := u.mem (by omega)
  exact ⟨ad, e, sp, b, hb, by rw [List.length_map, u.len]; exact hc⟩

theorem Sl.of_blk {g ty : Nat} {fz : Nat × Nat} {ys : List α} {m k : Nat} (hb : h g = some ⟨ys.map enc, ty, fz⟩) (hm : m ≤ ys.length) (hk : m ≤ k) : Sl enc h (some ⟨g, 0, none⟩) m k (ys.take m) where
  len := by rw [List.length_take]; omega
  cap := hk
  mem _ := ⟨_, _, rfl, rfl, hb, by simp [List.map_take]⟩

theorem Sl.agree (u : Sl enc h A n c xs) (ha : ∀ ad b, 0 < n → A = some ad → h ad.block = some b → (b.cells.drop ad.off).take n = xs.map enc → h' ad.block = some b) : Sl enc h' A n c xs :=
  ⟨u.len, u.cap, fun hn => let ⟨ad, b, e, sp, hb, hc⟩ := u.mem hn; ⟨ad, b, e, sp, ha ad b hn e hb hc, hc⟩⟩
end

theorem setSeg_map {α : Type} (enc : α → Value) (ys : List α) (i : Nat) (y : α) (hi : i < ys.length) : setSeg (ys.map enc) i [enc y] = (ys.set i y).map enc := by
  unfold setSeg
  simp only [List.length_singleton]
  rw [List.set_eq_take_append_cons_drop, if_pos hi]
  simp

theorem ld_blk {α : Type} {enc : α → Value} {h : Heap} {g ty i : Nat} {fz : Nat × Nat} {rs : List α} {x : α} (hb : h g = some ⟨rs.map enc, ty, fz⟩) (hi : rs[i]? = some x) : LdN h (Addr.add ⟨g, 0, none⟩ (i * 1)) [enc x] := by
  rw [Nat.mul_one]
  refine ld_of (ad := ⟨g, 0, none⟩) rfl hb ?_
  rw [Nat.zero_add, List.getElem?_map, hi]
  rfl

theorem st_blk {α : Type} {enc : α → Value} {h : Heap} {g ty i : Nat} {rs : List α} {v : Value} (y : α) {K : Heap → Prop} (hb : h g = some ⟨rs.map enc, ty, (0, 0)⟩) (hi : i < rs.length) (hv : v = enc y)
    (hk : K (h.put g ⟨(rs.set i y).map enc, ty, (0, 0)⟩)) :
    ∃ b : Blk, h (Addr.block (Addr.add ⟨g, 0, none⟩ (i * 1))) = some b ∧ b.fz = (0, 0) ∧ Addr.spot (Addr.add ⟨g, 0, none⟩ (i * 1)) = none ∧ Addr.off (Addr.add ⟨g, 0, none⟩ (i * 1)) + 1 ≤ b.cells.length ∧
      ∀ h' : Heap, h' = Heap.put h (Addr.block (Addr.add ⟨g, 0, none⟩ (i * 1))) { b with cells := setSeg b.cells (Addr.off (Addr.add ⟨g, 0, none⟩ (i * 1))) [v] } → K h' := by
  rw [Nat.mul_one, addr_block, addr_off, addr_spot _ _ rfl]
  refine ⟨_, hb, rfl, rfl, by simp; omega, ?_⟩
  rintro h' rfl
  subst hv
  simp only [Nat.zero_add]
  rw [setSeg_map enc rs i y hi]
  exact hk

theorem repV_map {α : Type} (enc : α → Value) (z : α) (n : Nat) : repV [enc z] n = (List.replicate n z).map enc := by
  induction n with
  | zero => rfl
  | succ n ih => simp only [repV, ih, List.replicate_succ]; rfl

/-- The elements gathered so far: the slice's first elements, in a block that the call owns (it is none of h). -/
def OwnE {α : Type} (enc : α → Value) (ty : Nat) (h h' : Heap) (A : Option Addr) (n c : Nat) (gs : List α) : Prop :=
  n = gs.length ∧ ((A = none ∧ n = 0 ∧ c = 0) ∨ ∃ g zs, A = some ⟨g, 0, none⟩ ∧ h g = none ∧ h' g = some ⟨(gs ++ zs).map enc, ty, (0, 0)⟩ ∧ c = (gs ++ zs).length)

section
variable {α : Type} {enc : α → Value} {ty : Nat} {h h' h'' : Heap} {A : Option Addr} {n c : Nat} {gs : List α}

theorem OwnE.nil (h : Heap) : OwnE enc ty h h none 0 0 [] := ⟨rfl, Or.inl ⟨rfl, rfl, rfl⟩⟩
theorem OwnE.start : OwnE enc ty h h' none 0 0 [] := ⟨rfl, Or.inl ⟨rfl, rfl, rfl⟩⟩

theorem OwnE.le (o : OwnE enc ty h h' A n c gs) (l : Le h' h'') : OwnE enc ty h h'' A n c gs := by
  obtain ⟨a, b⟩ := o
  refine ⟨a, b.imp id ?_⟩
  rintro ⟨g, zs, e, h0, hb, hc⟩
  exact ⟨g, zs, e, h0, l _ _ hb, hc⟩

theorem OwnE.sl (o : OwnE enc ty h h' A n c gs) : Sl enc h' A n c gs := by
  obtain ⟨a, b⟩ := o
  rcases b with ⟨e1, e2, e3⟩ | ⟨g, zs, e, h0, hb, hc⟩
  · have : gs = [] := List.length_eq_zero_iff.1 (by omega)
    subst this e1 e2 e3
    exact Sl.nil _ _ _
  · subst e a
    have := Sl.of_blk (m := gs.length) (k := c) hb (by simp) (by rw [hc]; simp)
    rwa [List.take_left] at this

/-- append of one element. -/
theorem OwnE.app {h4 : Heap} {x z : α} {bs : Nat} {v zv : Value} {K : Option Addr → Nat → Heap → Prop} (o : OwnE enc ty h h4 A n c gs) (hl : Le h h4) (h1 : ∀ y : α, Go.Vcg.one (enc y) = true) (hv : v = enc x) (hz : zv = enc z) {g0 : Nat} (hg0 : h4 g0 = none) (hn : (n + 1) * bs ≤ 140737488355328)
    (hK : ∀ A' c' h', OwnE enc ty h h' A' (n + 1) c' (gs ++ [x]) → Le h h' → (∀ k, k ≠ g0 → h4 k ≠ none → (∀ ad, A = some ad → k ≠ ad.block) → h' k = h4 k) → K A' c' h') :
    ∃ xs : List Value, RdS (h4.put g0 ⟨[v], ty, (0, 0)⟩) (some ⟨g0, 0, none⟩) (1 * 1) xs ∧ (∀ y ∈ xs, Go.Vcg.one y = true) ∧
      (n + 1 ≤ c → ∃ (ad : Addr) (b : Blk), A = some ad ∧ ad.spot = none ∧ (h4.put g0 ⟨[v], ty, (0, 0)⟩) ad.block = some b ∧ b.fz = (0, 0) ∧ ad.off + n * 1 + 1 * 1 ≤ b.cells.length ∧
        ∀ h' : Heap, h' = Heap.put (h4.put g0 ⟨[v], ty, (0, 0)⟩) ad.block { b with cells := setSeg b.cells (ad.off + n * 1) xs } → K A c h') ∧
      (c < n + 1 → ∃ olds : List Value, RdS (h4.put g0 ⟨[v], ty, (0, 0)⟩) A (n * 1) olds ∧ (n + 1) * bs ≤ 140737488355328 ∧
        ∀ (g1 cap : Nat) (h' : Heap), (h4.put g0 ⟨[v], ty, (0, 0)⟩) g1 = none → n + 1 ≤ cap → h' = Heap.put (h4.put g0 ⟨[v], ty, (0, 0)⟩) g1 ⟨olds ++ xs ++ repV [zv] (cap - (n + 1)), ty, (0, 0)⟩ → K (some ⟨g1, 0, none⟩) cap h') := by
  subst hv hz
  obtain ⟨en, o⟩ := o
  have hg0h : h g0 = none := hl.free hg0
  refine ⟨[enc x], ⟨rfl, fun _ => ⟨_, rfl, rfl, _, Heap.put_same _ _ _, rfl⟩⟩, fun y hy => by simp at hy; subst hy; exact h1 x, fun hc => ?_, fun hc => ?_⟩
  · rcases o with ⟨_, _, e⟩ | ⟨g, zs, rfl, h0, hb, rfl⟩
    · omega
    · have hne : g ≠ g0 := fun e => by rw [e, hg0] at hb; cases hb
      have hzl : 0 < zs.length := by simp at hc; omega
      obtain ⟨z', zs', rfl⟩ : ∃ z zs', zs = z :: zs' := by
        cases zs with
        | nil => simp at hzl
        | cons z r => exact ⟨z, r, rfl⟩
      refine ⟨_, _, rfl, rfl, (Heap.put_ne _ _ hne).trans hb, rfl, by simp; omega, ?_⟩
      rintro h' rfl
      have e : setSeg ((gs ++ z' :: zs').map enc) (0 + n * 1) [enc x] = ((gs ++ [x]) ++ zs').map enc := by
        unfold setSeg
        subst en
        simp [List.drop_append]
      refine hK _ _ _ ⟨by simp [en], Or.inr ⟨g, zs', rfl, h0, ?_, by simp⟩⟩ ((hl.put hg0h _).put h0 _) (fun k k0 _ kA => ?_)
      · rw [Heap.put_same]; simp only [e]
      · rw [Heap.put_ne _ _ (kA _ rfl), Heap.put_ne _ _ k0]
  · refine ⟨gs.map enc, ?_, hn, ?_⟩
    · refine ⟨by simp [en], fun h0 => ?_⟩
      rcases o with ⟨_, e, _⟩ | ⟨g, zs, rfl, h0, hb, _⟩
      · omega
      · have hne : g ≠ g0 := fun e => by rw [e, hg0] at hb; cases hb
        exact ⟨_, rfl, rfl, _, (Heap.put_ne _ _ hne).trans hb, by simp⟩
    · rintro g1 cap h' hg1 hcap rfl
      have hne : g1 ≠ g0 := fun e => by rw [e, Heap.put_same] at hg1; cases hg1
      have hg1' : h4 g1 = none := by rw [Heap.put_ne _ _ hne] at hg1; exact hg1
      refine hK _ _ _ ⟨by simp [en], Or.inr ⟨g1, List.replicate (cap - (n + 1)) z, rfl, hl.free hg1', ?_, by simp [en]; omega⟩⟩ ((hl.put hg0h _).put (hl.free hg1') _) (fun k k0 kn _ => ?_)
      · rw [Heap.put_same, repV_map]; simp
      · rw [Heap.put_ne _ _ (fun e => kn (by rw [e]; exact hg1')), Heap.put_ne _ _ k0]
end

/-- What stays where one element was appended to a slice whose block is none of hs. -/
theorem Le.app {h hs h4 h' : Heap} {α : Type} {enc : α → Value} {ty : Nat} {A : Option Addr} {n c g0 : Nat} {gs : List α} (o : OwnE enc ty h h4 A n c gs) (hg0 : h4 g0 = none) (l : Le hs h4) (hs0 : ∀ k, h k = none → hs k = none)
    (ha : ∀ k, k ≠ g0 → h4 k ≠ none → (∀ ad, A = some ad → k ≠ ad.block) → h' k = h4 k) : Le hs h' := fun k b hb => by
  have h4k := l k b hb
  rw [ha k (fun e => by rw [e, hg0] at h4k; cases h4k) (fun e => by rw [e] at h4k; cases h4k) (fun ad e q => ?_)]
  · exact h4k
  · rcases o.2 with ⟨e1, _, _⟩ | ⟨g, zs, e1, h0, _, _⟩
    · rw [e1] at e; cases e
    · rw [e1] at e
      cases e
      have := hs0 g h0
      rw [q] at hb
      rw [this] at hb
      cases hb
end Go.Proofs.YtfhipkdcekffaaaGreatDoor
