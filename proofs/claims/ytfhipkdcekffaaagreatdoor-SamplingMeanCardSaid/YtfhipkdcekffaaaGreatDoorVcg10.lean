/-
  The calculator is sound: guards; regions that do not draw.
-/
import Derived.Test.YtfhipkdcekffaaaGreatDoorVcg9
namespace Go.Vcg
open Go

section
variable {P : Program} {nt : Nat} {h0 : Heap} {w0 : World} {s : Nat → Nat} {st : St} {a : Act} {w : World} {K : St → Prop} {mb vis : Nat → Bool} {Q : Exit → Act → World → Prop}

theorem Good.same_put (g : Good nt h0 w0 s st a w) {d : Nat} {x : SV} (h : st.f d = some x) : st.put d x = st := by
  obtain ⟨f, B, nb, hh⟩ := st
  simp only [St.put, St.mk.injEq, and_true]
  funext t
  by_cases e : t = d
  · subst e; simp; exact h.symm
  · simp [beq_ne e]

theorem put_same {st : St} {d : Nat} {x : SV} (h : st.f d = some x) : st.put d x = st := by
  obtain ⟨f, B, nb, hh⟩ := st
  simp only [St.put, St.mk.injEq, and_true]
  funext t
  by_cases e : t = d
  · subst e; simp; exact h.symm
  · simp [beq_ne e]

theorem yield_bool (g : Good nt h0 w0 s st a w) {ops : Array Oper} {j d : Nat} {t : Bool} (hj : (ops[j]?).bind (·.dst) = some d) (hf : st.f d = some (.v (.bool t))) : yielded ops a.tmps j = some t := by
  have hr := g.rep d _ hf
  simp only [SV.val] at hr
  have hd : a.tmps[d]? = some (.bool t) := by
    rcases Nat.lt_or_ge d a.tmps.size with h | h
    · simpa [Array.getD_eq_getD_getElem?, Array.getElem?_eq_getElem h] using hr
    · simp [Array.getD_eq_getD_getElem?, Array.getElem?_eq_none h, undef] at hr
  simp [yielded, hj, hd]

theorem yield_tuple (g : Good nt h0 w0 s st a w) {ops : Array Oper} {j d : Nat} {vs : Array Value} (hj : (ops[j]?).bind (·.dst) = some d) (hf : st.f d = some (.v (.tuple vs))) : yielded ops a.tmps j = none := by
  have hr := g.rep d _ hf
  simp only [SV.val] at hr
  have hd : a.tmps[d]? = some (.tuple vs) ∨ a.tmps[d]? = none := by
    rcases Nat.lt_or_ge d a.tmps.size with h | h
    · exact .inl (by simpa [Array.getD_eq_getD_getElem?, Array.getElem?_eq_getElem h] using hr)
    · exact .inr (Array.getElem?_eq_none h)
  rcases hd with hd | hd <;> simp [yielded, hj, hd]

theorem opG_sound (g : Good nt h0 w0 s st a w) {ops : Array Oper} {see : Bool} {o : Oper} (hv : opG P nt vis mb ops.toList see o st K) :
    if Region.wanted o (yielded ops a.tmps) = true then o.wp P a w (NextP nt h0 w0 K (dstW o.dst) mb s st a) Q else NextP nt h0 w0 K (dstW o.dst) mb s st a (a.put o.dst undef) w := by
  have skip : putK nt o.dst (.v undef) st K → NextP nt h0 w0 K (dstW o.dst) mb s st a (a.put o.dst undef) w := fun h => putK_sound (v := .v undef) g (Ext.refl _ _ _ _ _) trivial h
  unfold opG at hv
  split at hv
  · rename_i hg
    rw [if_pos (by simp [Region.wanted, hg])]
    exact opV_sound g hv
  · rename_i j want hg
    split at hv
    · exact hv.elim
    · rename_i d hj
      have hj' : (ops[j]?).bind (·.dst) = some d := by simpa using hj
      split at hv
      · rename_i t hf
        have hy := yield_bool g hj' hf
        cases t with
        | true =>
          simp only [Br, put_same hf] at hv
          cases want with
          | true =>
            rw [if_pos (by simp [Region.wanted, hg, hy])]
            exact opV_sound g hv
          | false =>
            rw [if_neg (by simp [Region.wanted, hg, hy])]
            exact skip hv
        | false =>
          simp only [Br, put_same hf] at hv
          cases want with
          | true =>
            rw [if_neg (by simp [Region.wanted, hg, hy])]
            exact skip hv
          | false =>
            rw [if_pos (by simp [Region.wanted, hg, hy])]
            exact opV_sound g hv
      · rename_i vs hf
        have hy := yield_tuple g hj' hf
        rw [if_neg (by simp [Region.wanted, hg, hy])]
        exact skip hv
      · exact hv.elim

/-- Behind a code: the end's relation to where it began. -/
def PostP (nt : Nat) (h0 : Heap) (w0 : World) (Qv : Exit → St → Prop) (W mb : Nat → Bool) (sB : Nat → Nat) (stB : St) (aB : Act) (e : Exit) (a' : Act) (w' : World) : Prop :=
  ∃ st' s', Qv e st' ∧ Good nt h0 w0 s' st' a' w' ∧ Ext W mb sB stB aB s' st' a'

theorem Ext.step {W mb : Nat → Bool} {d : Option Nat} {sB s1 s2 : Nat → Nat} {stB st1 st2 : St} {aB a1 a2 : Act} (h : Ext W mb sB stB aB s1 st1 a1) (k : Ext (dstW d) mb s1 st1 a1 s2 st2 a2)
    (hd : ∀ t, W t = false → dstW d t = false) : Ext W mb sB stB aB s2 st2 a2 := (h.trans k).mono fun t ht => by rw [ht, hd t ht]; rfl

theorem opsV_sound {ops : Array Oper} {Qv : Exit → St → Prop} {W : Nat → Bool} {sB : Nat → Nat} {stB : St} {aB : Act} : ∀ (l : List Oper) (s : Nat → Nat) (st : St) (a : Act) (w : World),
    Good nt h0 w0 s st a w → Ext W mb sB stB aB s st a → (∀ t, W t = false → opsWrite t l = false) → opsV P nt vis mb ops.toList l st (Qv .normal) →
    wpList P ops (PostP nt h0 w0 Qv W mb sB stB aB) l a w
  | [], s, st, a, w, g, e, _, hv => ⟨st, s, hv, g, e⟩
  | o :: r, s, st, a, w, g, e, hW, hv => by
    have hd : ∀ t, W t = false → dstW o.dst t = false ∧ opsWrite t r = false := fun t ht => by
      have := hW t ht
      simp only [opsWrite] at this
      split at this
      · rename_i d hd
        rw [hd]
        simp only [dstW]
        cases hb : Nat.beq t d with
        | true => rw [hb] at this; cases this
        | false => rw [hb] at this; exact ⟨rfl, this⟩
      · rename_i hd; rw [hd]; exact ⟨rfl, this⟩
    have next : ∀ a' w', NextP nt h0 w0 (fun st' => opsV P nt vis mb ops.toList r st' (Qv .normal)) (dstW o.dst) mb s st a a' w' → wpList P ops (PostP nt h0 w0 Qv W mb sB stB aB) r a' w' := by
      rintro a' w' ⟨st', s', hk, g', e'⟩
      exact opsV_sound r s' st' a' w' g' (e.step e' fun t ht => (hd t ht).1) (fun t ht => (hd t ht).2) hk
    have h1 := opG_sound (Q := PostP nt h0 w0 Qv W mb sB stB aB) g (ops := ops) (see := true) (o := o) (K := fun st' => opsV P nt vis mb ops.toList r st' (Qv .normal)) hv
    unfold wpList
    split
    · rename_i hw
      rw [if_pos hw] at h1
      exact .inl (Oper.wp_mono next h1)
    · rename_i hw
      rw [if_neg hw] at h1
      exact next _ _ h1
end
end Go.Vcg
