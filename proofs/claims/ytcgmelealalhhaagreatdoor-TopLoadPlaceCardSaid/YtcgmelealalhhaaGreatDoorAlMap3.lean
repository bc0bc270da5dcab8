/- Maps: flat keys. -/
import Derived.Test.YtcgmelealalhhaaGreatDoorAlMem
import Derived.Test.YtcgmelealalhhaaGreatDoorAlMap2
namespace Go.Al
theorem rep_kv {S : Nat → Prop} {w : World} : ∀ {κ : Ty} {x : den κ} {us : List Value}, flatT κ = true → Rep S w κ x us → us = kv κ x
 | .int _, _, _, _, h => h
 | .bool, _, _, _, h => h
 | .str, _, _, _, h => h
 | .pair a b, x, us, hf, h => by
  simp only [flatT, Bool.and_eq_true] at hf
  obtain ⟨v1, v2, rfl, h1, h2⟩ := h
  rw [rep_kv hf.1 h1, rep_kv hf.2 h2]; rfl
 | .list _, _, _, hf, _ => by simp [flatT] at hf
 | .alt .., _, _, hf, _ => by simp [flatT] at hf
theorem dcs_flat : ∀ {κ : Ty} {l r : List C} {x : den κ}, flatT κ = true → dcs κ l = some (x, r) → ownsOf l = ownsOf r
 | .int k, l, r, x, _, h => by
  cases l with
  | nil => simp [dcs, dcOne] at h
  | cons c q =>
   simp only [dcs, dcOne] at h
   split at h
   ·rename_i y hy
    cases h
    cases c <;> first | rfl | (simp [dc1] at hy; done)
   ·cases h
 | .bool, l, r, x, _, h => by
  cases l with
  | nil => simp [dcs, dcOne] at h
  | cons c q =>
   simp only [dcs, dcOne] at h
   split at h
   ·rename_i y hy
    cases h
    cases c <;> first | rfl | (simp [dc1] at hy; done)
   ·cases h
 | .str, l, r, x, _, h => by
  cases l with
  | nil => simp [dcs, dcOne] at h
  | cons c q =>
   simp only [dcs, dcOne] at h
   split at h
   ·rename_i y hy
    cases h
    cases c <;> first | rfl | (simp [dc1] at hy; done)
   ·cases h
 | .pair a b, l, r, x, hf, h => by
  simp only [flatT, Bool.and_eq_true] at hf
  simp only [dcs] at h
  split at h
  ·rename_i y q hy
   split at h
   ·rename_i z q' hz
    cases h
    exact (dcs_flat hf.1 hy).trans (dcs_flat hf.2 hz)
   ·cases h
  ·cases h
 | .list _, _, _, _, hf, _ => by simp [flatT] at hf
 | .alt .., _, _, _, hf, _ => by simp [flatT] at hf
theorem dcAll_flat {κ : Ty} {l : List C} {x : den κ} (hf : flatT κ = true) (h : dcAll κ l = some x) : ownsOf l = [] := by
 unfold dcAll at h
 split at h
 ·rename_i y hy
  exact dcs_flat hf hy
 ·cases h
end Go.Al
