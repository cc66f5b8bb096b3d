/-
  How large what is read is: in plain words. No program in sight.
-/
import Derived.Test.YtlfeddgpfaigkaaGreatDoorJsM
import Derived.Test.YtlfeddgpfaigkaaGreatDoorJsPl
namespace Go.Proofs.YtlfeddgpfaigkaaGreatDoor
namespace Js
theorem atom_nil {s : List UInt8} {h : Hd} {k : F} {r : List UInt8} (hx : atom s = some (.ok h k r)) : k = .nil := (atom_trim hx).2.1
def szOf : Kd → F → Nat
  | .val, f => f.sz + 1
  | _, f => f.sz
theorem rd_sz : ∀ (n : Nat) (kd : Kd) (d : Nat) (s : List UInt8) (h : Hd) (f : F) (r : List UInt8), rd n kd d s = .ok h f r → szOf kd f + r.length ≤ s.length := by
  intro n
  induction n with
  | zero => intro kd d s h f r hx; simp [rd] at hx
  | succ n ih =>
    intro kd d s h f r hx
    cases kd with
    | val =>
      have hb := bl_len s
      unfold rd at hx
      split at hx
      · cases hx
      · rename_i c t hc
        rw [hc] at hb
        simp only [List.length_cons] at hb
        split at hx
        · cases hx
        · split at hx
          · rename_i o ho
            subst hx
            have h1 := atom_len ho
            have h2 := atom_nil ho
            subst h2
            simp only [List.length_cons] at h1
            simp only [szOf, F.sz]; omega
          · split at hx
            · split at hx
              · rename_i q hq
                have h1 := opn_len hq
                injection hx with _ h2 hx; subst hx h2
                simp only [szOf, F.sz]; omega
              · have h1 := ih _ _ _ _ _ _ hx
                simp only [szOf] at h1 ⊢; omega
            · split at hx
              · rename_i q hq
                have h1 := opn_len hq
                injection hx with _ h2 hx; subst hx h2
                simp only [szOf, F.sz]; omega
              · have h1 := ih _ _ _ _ _ _ hx
                simp only [szOf] at h1 ⊢; omega
    | items =>
      unfold rd at hx
      split at hx
      · cases hx
      · rename_i h1 k1 r1 he
        have h2 := ih _ _ _ _ _ _ he
        simp only [szOf] at h2
        split at hx
        · cases hx
        · rename_i q hq
          have h3 := nx_len (.inl hq)
          injection hx with _ h4 hx; subst hx h4
          simp only [szOf, F.sz]; omega
        · rename_i q hq
          have h3 := nx_len (.inr hq)
          cases hr : rd n .items d q with
          | err no q2 => rw [hr] at hx; cases hx
          | ok h4 k4 r4 =>
            rw [hr] at hx
            injection hx with _ h5 hx; subst hx h5
            have h6 := ih _ _ _ _ _ _ hr
            simp only [szOf, F.sz] at h6 ⊢; omega
    | mems ks =>
      unfold rd at hx
      split at hx
      · cases hx
      · rename_i t p hp
        have h0 := key_len hp
        split at hx
        · cases hx
        · rename_i h1 k1 r1 he
          have h2 := ih _ _ _ _ _ _ he
          simp only [szOf] at h2
          split at hx
          · cases hx
          · rename_i q hq
            have h3 := nx_len (.inl hq)
            injection hx with _ h4 hx; subst hx h4
            simp only [szOf, F.sz]; omega
          · rename_i q hq
            have h3 := nx_len (.inr hq)
            cases hr : rd n (.mems (ks ++ [t])) d q with
            | err no q2 => rw [hr] at hx; cases hx
            | ok h4 k4 r4 =>
              rw [hr] at hx
              injection hx with _ h5 hx; subst hx h5
              have h6 := ih _ _ _ _ _ _ hr
              simp only [szOf, F.sz] at h6 ⊢; omega
theorem val_sz {d : Nat} {s : List UInt8} {h : Hd} {f : F} {r : List UInt8} (hx : val d s = .ok h f r) : f.sz + 1 + r.length ≤ s.length := rd_sz _ _ _ _ _ _ _ hx
theorem trim_at {f : F} (ht : trim f = f) {i : Nat} {h : Hd} {k : F} (e : (toL f)[i]? = some (h, k)) : trimH h = h ∧ trimK h k = k := by
  induction f generalizing i with
  | nil => simp [toL] at e
  | cons h0 k0 r _ ih =>
    rw [trim_cons] at ht
    injection ht with h1 h2 h3
    cases i with
    | zero => simp [toL] at e; obtain ⟨rfl, rfl⟩ := e; exact ⟨h1, h2⟩
    | succ i => exact ih h3 (by simpa [toL] using e)
end Js
end Go.Proofs.YtlfeddgpfaigkaaGreatDoor
