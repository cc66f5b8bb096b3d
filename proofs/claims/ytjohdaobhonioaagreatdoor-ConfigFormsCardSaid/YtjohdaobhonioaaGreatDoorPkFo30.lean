/-
  Parts of the proof: CfZ, CfY.
-/
import Derived.Test.YtjohdaobhonioaaGreatDoorPkFo27
import Derived.Test.YtjohdaobhonioaaGreatDoorPkFo29
import Derived.Test.YtjohdaobhonioaaGreatDoorPkFo6
import Derived.Shelf.Strconv.AtoiAll
import Derived.Shelf.Strconv.Itoa4
namespace Go.Proofs.YtjohdaobhonioaaGreatDoor
open Go.RowKit Go.Shelf
namespace Js.Cf
set_option maxHeartbeats 8000000 in
set_option maxRecDepth 100000 in
theorem variable_any (s : B) (w : World) (hs : s.length ≤ 1099511627776) : Calls Tryz.prog 131 #[.string ⟨s.toArray⟩] w fun x w' => x = .returned (.bool (varB s)) /\ w' = w := by
 obtain ⟨n, hn⟩ : ∃ n, n = s.length := ⟨_, rfl⟩
 have HN := Lib.hid hn
 have hz : (⟨s.toArray⟩ : ByteArray).size = n := hn.symm
 rw [<- hn] at hs
 clear hn
 go_enter Tryz.func131, Tryz.ntmps131
 go_wp2_with fail
 go_loop [7] (fun i => ∃ k : Nat, k ≤ n /\ i = .int .i64 k /\ Hid (∀ j c, j < k -> s[j]? = some c -> okB j c = true)) (fun i => n - (intOf i).toNat)
 case atStart => exact ⟨0, by omega, rfl, Lib.hid fun j c h => by omega⟩
 case round =>
  obtain ⟨k, hk, rfl, HO⟩ := hrel
  by_cases hlt : k < n
  . have hlt2 : k < s.length := by have := HN.out; omega
    have hidx := run_index_list Tryz.underlying9 s k hlt2
    have hget : s[k]? = some (s.getD k 0) := by simp [List.getD, List.getElem?_eq_getElem hlt2]
    obtain ⟨c, hc⟩ : ∃ c, c = s.getD k 0 := ⟨_, rfl⟩
    have hok := okB_toNat k c
    rw [<- hc] at hidx hget
    obtain ⟨m, hm⟩ : ∃ m, m = c.toNat := ⟨_, rfl⟩
    rw [<- hm] at hidx hok
    have HG := Lib.hid hget
    clear hc hm hget hlt2
    have hcls : (m = 95) ∨ (97 ≤ m /\ m ≤ 122) ∨ (65 ≤ m /\ m ≤ 90) ∨ (48 ≤ m /\ m ≤ 57 /\ k ≠ 0) ∨ (48 ≤ m /\ m ≤ 57 /\ k = 0) ∨ (m < 48 /\ k ≠ 0) ∨ (m < 48 /\ k = 0) ∨ (57 < m /\ m < 65 /\ k ≠ 0) ∨ (57 < m /\ m < 65 /\ k = 0) ∨ (90 < m /\ m < 97 /\ m ≠ 95 /\ k ≠ 0) ∨ (90 < m /\ m < 97 /\ m ≠ 95 /\ k = 0) ∨ (122 < m /\ k ≠ 0) ∨ (122 < m /\ k = 0) := by omega
    rcases hcls with hcl | hcl | hcl | hcl | hcl | hcl | hcl | hcl | hcl | hcl | hcl | hcl | hcl
    . have HK : Hid (okB k c = true) := Lib.hid (by rw [hok]; simp; omega)
      have f_e95 : ((m : Int) = 95) = True := eq_true (by omega)
      have g_e95 : ((m : Int) != 95) = false := by simp only [bne, show ((m : Int) == 95) = true by rw [beq_iff_eq]; omega]; rfl
      clear hok hcl
      go_wp2_with fail
      go_round
      case rel => exact ⟨k + 1, by omega, by go_num, Lib.hid fun j d hj hd => by
       rcases Nat.lt_or_eq_of_le (Nat.le_of_lt_succ hj) with h | h
       . exact HO.out j d h hd
       . subst h; rw [HG.out] at hd; injection hd with hd; subst hd; exact HK.out⟩
      case measure => simp [intOf]; omega
    . have HK : Hid (okB k c = true) := Lib.hid (by rw [hok]; simp; omega)
      have f_e95 : ((m : Int) = 95) = False := eq_false (by omega)
      have g_e95 : ((m : Int) != 95) = true := by simp only [bne, show ((m : Int) == 95) = false by rw [beq_eq_false_iff_ne]; omega]; rfl
      have f_l97 : ((m : Int) < 97) = False := eq_false (by omega)
      have f_g122 : (122 < (m : Int)) = False := eq_false (by omega)
      clear hok hcl
      go_wp2_with fail
      go_round
      case rel => exact ⟨k + 1, by omega, by go_num, Lib.hid fun j d hj hd => by
       rcases Nat.lt_or_eq_of_le (Nat.le_of_lt_succ hj) with h | h
       . exact HO.out j d h hd
       . subst h; rw [HG.out] at hd; injection hd with hd; subst hd; exact HK.out⟩
      case measure => simp [intOf]; omega
    . have HK : Hid (okB k c = true) := Lib.hid (by rw [hok]; simp; omega)
      have f_e95 : ((m : Int) = 95) = False := eq_false (by omega)
      have g_e95 : ((m : Int) != 95) = true := by simp only [bne, show ((m : Int) == 95) = false by rw [beq_eq_false_iff_ne]; omega]; rfl
      have f_l97 : ((m : Int) < 97) = True := eq_true (by omega)
      have f_l65 : ((m : Int) < 65) = False := eq_false (by omega)
      have f_g90 : (90 < (m : Int)) = False := eq_false (by omega)
      clear hok hcl
      go_wp2_with fail
      go_round
      case rel => exact ⟨k + 1, by omega, by go_num, Lib.hid fun j d hj hd => by
       rcases Nat.lt_or_eq_of_le (Nat.le_of_lt_succ hj) with h | h
       . exact HO.out j d h hd
       . subst h; rw [HG.out] at hd; injection hd with hd; subst hd; exact HK.out⟩
      case measure => simp [intOf]; omega
    . have HK : Hid (okB k c = true) := Lib.hid (by rw [hok]; simp; omega)
      have f_e95 : ((m : Int) = 95) = False := eq_false (by omega)
      have g_e95 : ((m : Int) != 95) = true := by simp only [bne, show ((m : Int) == 95) = false by rw [beq_eq_false_iff_ne]; omega]; rfl
      have f_l97 : ((m : Int) < 97) = True := eq_true (by omega)
      have f_l65 : ((m : Int) < 65) = True := eq_true (by omega)
      have f_k0 : ((k : Int) == 0) = false := by rw [beq_eq_false_iff_ne]; omega
      have f_l48 : ((m : Int) < 48) = False := eq_false (by omega)
      have f_g57 : (57 < (m : Int)) = False := eq_false (by omega)
      clear hok hcl
      go_wp2_with fail
      go_round
      case rel => exact ⟨k + 1, by omega, by go_num, Lib.hid fun j d hj hd => by
       rcases Nat.lt_or_eq_of_le (Nat.le_of_lt_succ hj) with h | h
       . exact HO.out j d h hd
       . subst h; rw [HG.out] at hd; injection hd with hd; subst hd; exact HK.out⟩
      case measure => simp [intOf]; omega
    . have HK : Hid (okB k c = false) := Lib.hid (by rw [hok]; simp; omega)
      have f_e95 : ((m : Int) = 95) = False := eq_false (by omega)
      have g_e95 : ((m : Int) != 95) = true := by simp only [bne, show ((m : Int) == 95) = false by rw [beq_eq_false_iff_ne]; omega]; rfl
      have f_l97 : ((m : Int) < 97) = True := eq_true (by omega)
      have f_l65 : ((m : Int) < 65) = True := eq_true (by omega)
      have f_k0 : ((k : Int) == 0) = true := by rw [beq_iff_eq]; omega
      clear hok hcl
      go_wp2_with fail
      go_ret
      exact ⟨by rw [varB_no HG.out HK.out]; rfl, rfl⟩
    . have HK : Hid (okB k c = false) := Lib.hid (by rw [hok]; simp; omega)
      have f_e95 : ((m : Int) = 95) = False := eq_false (by omega)
      have g_e95 : ((m : Int) != 95) = true := by simp only [bne, show ((m : Int) == 95) = false by rw [beq_eq_false_iff_ne]; omega]; rfl
      have f_l97 : ((m : Int) < 97) = True := eq_true (by omega)
      have f_l65 : ((m : Int) < 65) = True := eq_true (by omega)
      have f_k0 : ((k : Int) == 0) = false := by rw [beq_eq_false_iff_ne]; omega
      have f_l48 : ((m : Int) < 48) = True := eq_true (by omega)
      clear hok hcl
      go_wp2_with fail
      go_ret
      exact ⟨by rw [varB_no HG.out HK.out]; rfl, rfl⟩
    . have HK : Hid (okB k c = false) := Lib.hid (by rw [hok]; simp; omega)
      have f_e95 : ((m : Int) = 95) = False := eq_false (by omega)
      have g_e95 : ((m : Int) != 95) = true := by simp only [bne, show ((m : Int) == 95) = false by rw [beq_eq_false_iff_ne]; omega]; rfl
      have f_l97 : ((m : Int) < 97) = True := eq_true (by omega)
      have f_l65 : ((m : Int) < 65) = True := eq_true (by omega)
      have f_k0 : ((k : Int) == 0) = true := by rw [beq_iff_eq]; omega
      clear hok hcl
      go_wp2_with fail
      go_ret
      exact ⟨by rw [varB_no HG.out HK.out]; rfl, rfl⟩
    . have HK : Hid (okB k c = false) := Lib.hid (by rw [hok]; simp; omega)
      have f_e95 : ((m : Int) = 95) = False := eq_false (by omega)
      have g_e95 : ((m : Int) != 95) = true := by simp only [bne, show ((m : Int) == 95) = false by rw [beq_eq_false_iff_ne]; omega]; rfl
      have f_l97 : ((m : Int) < 97) = True := eq_true (by omega)
      have f_l65 : ((m : Int) < 65) = True := eq_true (by omega)
      have f_k0 : ((k : Int) == 0) = false := by rw [beq_eq_false_iff_ne]; omega
      have f_l48 : ((m : Int) < 48) = False := eq_false (by omega)
      have f_g57 : (57 < (m : Int)) = True := eq_true (by omega)
      clear hok hcl
      go_wp2_with fail
      go_ret
      exact ⟨by rw [varB_no HG.out HK.out]; rfl, rfl⟩
    . have HK : Hid (okB k c = false) := Lib.hid (by rw [hok]; simp; omega)
      have f_e95 : ((m : Int) = 95) = False := eq_false (by omega)
      have g_e95 : ((m : Int) != 95) = true := by simp only [bne, show ((m : Int) == 95) = false by rw [beq_eq_false_iff_ne]; omega]; rfl
      have f_l97 : ((m : Int) < 97) = True := eq_true (by omega)
      have f_l65 : ((m : Int) < 65) = True := eq_true (by omega)
      have f_k0 : ((k : Int) == 0) = true := by rw [beq_iff_eq]; omega
      clear hok hcl
      go_wp2_with fail
      go_ret
      exact ⟨by rw [varB_no HG.out HK.out]; rfl, rfl⟩
    . have HK : Hid (okB k c = false) := Lib.hid (by rw [hok]; simp; omega)
      have f_e95 : ((m : Int) = 95) = False := eq_false (by omega)
      have g_e95 : ((m : Int) != 95) = true := by simp only [bne, show ((m : Int) == 95) = false by rw [beq_eq_false_iff_ne]; omega]; rfl
      have f_l97 : ((m : Int) < 97) = True := eq_true (by omega)
      have f_l65 : ((m : Int) < 65) = False := eq_false (by omega)
      have f_g90 : (90 < (m : Int)) = True := eq_true (by omega)
      have f_k0 : ((k : Int) == 0) = false := by rw [beq_eq_false_iff_ne]; omega
      have f_l48 : ((m : Int) < 48) = False := eq_false (by omega)
      have f_g57 : (57 < (m : Int)) = True := eq_true (by omega)
      clear hok hcl
      go_wp2_with fail
      go_ret
      exact ⟨by rw [varB_no HG.out HK.out]; rfl, rfl⟩
    . have HK : Hid (okB k c = false) := Lib.hid (by rw [hok]; simp; omega)
      have f_e95 : ((m : Int) = 95) = False := eq_false (by omega)
      have g_e95 : ((m : Int) != 95) = true := by simp only [bne, show ((m : Int) == 95) = false by rw [beq_eq_false_iff_ne]; omega]; rfl
      have f_l97 : ((m : Int) < 97) = True := eq_true (by omega)
      have f_l65 : ((m : Int) < 65) = False := eq_false (by omega)
      have f_g90 : (90 < (m : Int)) = True := eq_true (by omega)
      have f_k0 : ((k : Int) == 0) = true := by rw [beq_iff_eq]; omega
      clear hok hcl
      go_wp2_with fail
      go_ret
      exact ⟨by rw [varB_no HG.out HK.out]; rfl, rfl⟩
    . have HK : Hid (okB k c = false) := Lib.hid (by rw [hok]; simp; omega)
      have f_e95 : ((m : Int) = 95) = False := eq_false (by omega)
      have g_e95 : ((m : Int) != 95) = true := by simp only [bne, show ((m : Int) == 95) = false by rw [beq_eq_false_iff_ne]; omega]; rfl
      have f_l97 : ((m : Int) < 97) = False := eq_false (by omega)
      have f_g122 : (122 < (m : Int)) = True := eq_true (by omega)
      have f_l65 : ((m : Int) < 65) = False := eq_false (by omega)
      have f_g90 : (90 < (m : Int)) = True := eq_true (by omega)
      have f_k0 : ((k : Int) == 0) = false := by rw [beq_eq_false_iff_ne]; omega
      have f_l48 : ((m : Int) < 48) = False := eq_false (by omega)
      have f_g57 : (57 < (m : Int)) = True := eq_true (by omega)
      clear hok hcl
      go_wp2_with fail
      go_ret
      exact ⟨by rw [varB_no HG.out HK.out]; rfl, rfl⟩
    . have HK : Hid (okB k c = false) := Lib.hid (by rw [hok]; simp; omega)
      have f_e95 : ((m : Int) = 95) = False := eq_false (by omega)
      have g_e95 : ((m : Int) != 95) = true := by simp only [bne, show ((m : Int) == 95) = false by rw [beq_eq_false_iff_ne]; omega]; rfl
      have f_l97 : ((m : Int) < 97) = False := eq_false (by omega)
      have f_g122 : (122 < (m : Int)) = True := eq_true (by omega)
      have f_l65 : ((m : Int) < 65) = False := eq_false (by omega)
      have f_g90 : (90 < (m : Int)) = True := eq_true (by omega)
      have f_k0 : ((k : Int) == 0) = true := by rw [beq_iff_eq]; omega
      clear hok hcl
      go_wp2_with fail
      go_ret
      exact ⟨by rw [varB_no HG.out HK.out]; rfl, rfl⟩
  . obtain rfl : k = n := by omega
    have HV : Hid (varB s = decide (s ≠ [])) := Lib.hid (varB_yes fun j c h => HO.out j c (by have := (List.getElem?_eq_some_iff.1 h).1; have := HN.out; omega) h)
    have hne := neq_texts s []
    go_wp2_with fail
    go_ret
    refine ⟨?_, rfl⟩
    rw [HV.out]
    cases s <;> rfl
theorem itoa_any (n : Int) (h0 : -9223372036854775808 ≤ n) (h1 : n ≤ 9223372036854775807) (w : World) (hT : St w) :
  Calls Tryz.prog 203 #[.int .i64 n] w fun x w' => x = .returned (.string ⟨(Lib.itoa n).toArray⟩) /\ Below w.heap.size w w' := by
 refine (Any.strconv_Itoa laysM171 n h0 h1 w hT.pow).mono ?_
 rintro e w' ⟨rfl, k, os, rfl⟩
 exact ⟨rfl, below_grow w k os⟩
theorem atoi_ok (m : B) (hm : m.length ≤ 4398046511104) (v : Int) (h : Lib.atoiAll m = .ok v) (w : World) :
   Calls Tryz.prog 202 #[.string ⟨m.toArray⟩] w fun x w' => x = .returned (.tuple #[.int .i64 v, .nilIface]) /\ Below w.heap.size w w' := by
 refine (Any.strconv_Atoi_ok laysC172 ⟨m.toArray⟩ (by simp [ByteArray.size]; omega) v h w).mono ?_
 rintro e w' ⟨rfl, rfl | ⟨t, rfl⟩⟩
 . exact ⟨rfl, Below.refl _ _⟩
 . exact ⟨rfl, Lib.bytesWorld_below _ _ _⟩
theorem atoi_bad (m : B) (hm : m.length ≤ 4398046511104) (h : ∀ v, Lib.atoiAll m ≠ .ok v) (w : World) (hT : St w) :
  Calls Tryz.prog 202 #[.string ⟨m.toArray⟩] w fun x w' => ∃ (z : Int) (T : TypeId) (N : Nat), x = .returned (.tuple #[.int .i64 z, .iface T (.pointer (some ⟨N, 0, none⟩))]) /\ Below w.heap.size w w' := by
 cases hp : Lib.atoiAll m with
 | ok v => exact absurd hp (h v)
 | «syntax» =>
  obtain ⟨ev, hv, hev⟩ := hT.syn
  refine (Any.strconv_Atoi_syntax laysC172 ⟨m.toArray⟩ (by simp [ByteArray.size]; omega) hp ev w hv hev).mono ?_
  rintro e w' ⟨N, rfl, _, _, hb⟩
  exact ⟨_, _, N, rfl, hb⟩
 | range =>
  obtain ⟨ev, hv, hev⟩ := hT.rng
  refine (Any.strconv_Atoi_range laysC172 ⟨m.toArray⟩ (by simp [ByteArray.size]; omega) hp ev w hv hev).mono ?_
  rintro e w' ⟨N, rfl, _, _, hb⟩
  exact ⟨_, _, N, rfl, hb⟩
theorem nil_neq (T : TypeId) (v : Value) (wx : World) : (binOp .eql 32 (.iface T v) .nilIface).run Tryz.prog wx = .ok (.bool false) wx := by
 go_simp
theorem portB_of (s : B) : portB s = match Lib.atoiAll (s.takeWhile (· != 47)) with
 | .ok x => decide (1 ≤ x) && decide (x ≤ 65535) && decide (Lib.itoa x = s.takeWhile (· != 47)) && (decide ((s.dropWhile (· != 47)).drop 1 = [116, 99, 112]) || decide ((s.dropWhile (· != 47)).drop 1 = [117, 100, 112]))
 | _ => false := (portP_is s).symm
set_option maxHeartbeats 8000000 in
set_option maxRecDepth 100000 in
theorem port_any (s : B) (w : World) (hs : s.length ≤ 1099511627776) (hst : St w) : Calls Tryz.prog 132 #[.string ⟨s.toArray⟩] w fun x w' => x = .returned (.bool (portB s)) /\ Below w.heap.size w w' := by
 have hcut := cut_any 47 s w hs
 have hp := portB_of s
 have hln : (s.takeWhile (· != 47)).length ≤ 4398046511104 := by
  have := congrArg List.length (List.takeWhile_append_dropWhile (p := (· != 47)) (l := s))
  rw [List.length_append] at this; omega
 obtain ⟨n, hn⟩ : ∃ n, n = s.takeWhile (· != 47) := ⟨_, rfl⟩
 obtain ⟨kd, hkd⟩ : ∃ kd, kd = (s.dropWhile (· != 47)).drop 1 := ⟨_, rfl⟩
 obtain ⟨mb, hmb⟩ : ∃ mb, mb = decide ((47 : UInt8) ∈ s) := ⟨_, rfl⟩
 rw [<- hn, <- hkd, <- hmb] at hcut
 rw [<- hn, <- hkd] at hp
 rw [<- hn] at hln
 have HP := Lib.hid hp
 have HST := Lib.hid hst
 clear hn hkd hmb hp hst
 go_enter Tryz.func132, Tryz.ntmps132
 go_wp2_with fail
 refine hcut.mono ?_
 rintro e w1 ⟨rfl, k, rfl⟩
 have HS1 : Hid (St (w.drewN k)) := Lib.hid (HST.out.below (below_drewN (Below.refl _ _) k))
 clear hcut
 cases hat : Lib.atoiAll n with
 | ok x =>
  have HA := Lib.hid (atoi_ok n hln x hat (w.drewN k))
  have hbd := Lib.atoiAll_bounds hat
  rw [hat] at HP
  clear hat
  go_wp2_with fail
  refine HA.out.mono ?_
  rintro e w2 ⟨rfl, hb2⟩
  have HB2 : Hid (Below w.heap.size w w2) := Lib.hid ((below_drewN (Below.refl _ _) k).trans hb2)
  have HS2 : Hid (St w2) := Lib.hid (HST.out.below HB2.out)
  clear hb2 HA HS1
  by_cases h1 : 1 ≤ x
  . by_cases h2 : x ≤ 65535
    . have q1 : (1 ≤ x) = True := eq_true h1
      have q2 : (x ≤ 65535) = True := eq_true h2
      have HI := Lib.hid (itoa_any x (by omega) (by omega) w2 HS2.out)
      obtain ⟨z, hz⟩ : ∃ z, z = Lib.itoa x := ⟨_, rfl⟩
      rw [<- hz] at HI HP
      clear hz
      go_wp2_with fail
      refine HI.out.mono ?_
      rintro e w3 ⟨rfl, hb3⟩
      have HB3 : Hid (Below w.heap.size w w3) := Lib.hid (HB2.out.trans (hb3.mono HB2.out.size))
      clear hb3 HI
      by_cases h3 : z = n
      . have q3 : (z == n) = true := by simpa using h3
        have HQ : Hid (portB s = (decide (kd = [116, 99, 112]) || decide (kd = [117, 100, 112]))) := Lib.hid (by rw [HP.out]; simp [h1, h2, h3])
        clear h3
        by_cases h4 : kd = [116, 99, 112]
        . have q4 : (kd == [116, 99, 112]) = true := by simpa using h4
          have HQ2 : Hid (portB s = true) := Lib.hid (by rw [HQ.out]; simp [h4])
          clear h4
          go_wp2_with fail
          go_ret
          exact ⟨by rw [HQ2.out]; rfl, HB3.out⟩
        . have q4 : (kd == [116, 99, 112]) = false := by simpa using h4
          have HQ2 : Hid (portB s = decide (kd = [117, 100, 112])) := Lib.hid (by rw [HQ.out]; simp [h4])
          clear h4
          by_cases h5 : kd = [117, 100, 112]
          . have q5 : (kd == [117, 100, 112]) = true := by simpa using h5
            have HQ3 : Hid (portB s = true) := Lib.hid (by rw [HQ2.out]; simp [h5])
            clear h5
            go_wp2_with fail
            go_ret
            exact ⟨by rw [HQ3.out]; rfl, HB3.out⟩
          . have q5 : (kd == [117, 100, 112]) = false := by simpa using h5
            have HQ3 : Hid (portB s = false) := Lib.hid (by rw [HQ2.out]; simp [h5])
            clear h5
            go_wp2_with fail
            go_ret
            exact ⟨by rw [HQ3.out]; rfl, HB3.out⟩
      . have q3 : (z == n) = false := by simpa using h3
        have HQ : Hid (portB s = false) := Lib.hid (by rw [HP.out]; simp [h3])
        clear h3
        go_wp2_with fail
        go_ret
        exact ⟨by rw [HQ.out]; rfl, HB3.out⟩
    . have q1 : (1 ≤ x) = True := eq_true h1
      have q2 : (x ≤ 65535) = False := eq_false h2
      have HQ : Hid (portB s = false) := Lib.hid (by rw [HP.out]; simp [h2])
      clear h1 h2
      go_wp2_with fail
      go_ret
      exact ⟨by rw [HQ.out]; rfl, HB2.out⟩
  . have q1 : (1 ≤ x) = False := eq_false h1
    have HQ : Hid (portB s = false) := Lib.hid (by rw [HP.out]; simp [h1])
    clear h1
    go_wp2_with fail
    go_ret
    exact ⟨by rw [HQ.out]; rfl, HB2.out⟩
 | «syntax» =>
  have HA := Lib.hid (atoi_bad n hln (by rw [hat]; intro v h; cases h) (w.drewN k) HS1.out)
  rw [hat] at HP
  have HQ : Hid (portB s = false) := Lib.hid HP.out
  have hnil := nil_neq
  clear hat HP
  go_wp2_with fail
  refine HA.out.mono ?_
  rintro e w2 ⟨z, T, N, rfl, hb2⟩
  have HB2 : Hid (Below w.heap.size w w2) := Lib.hid ((below_drewN (Below.refl _ _) k).trans hb2)
  clear hb2 HA HS1
  go_wp2_with fail
  go_ret
  exact ⟨by rw [HQ.out]; rfl, HB2.out⟩
 | range =>
  have HA := Lib.hid (atoi_bad n hln (by rw [hat]; intro v h; cases h) (w.drewN k) HS1.out)
  rw [hat] at HP
  have HQ : Hid (portB s = false) := Lib.hid HP.out
  have hnil := nil_neq
  clear hat HP
  go_wp2_with fail
  refine HA.out.mono ?_
  rintro e w2 ⟨z, T, N, rfl, hb2⟩
  have HB2 : Hid (Below w.heap.size w w2) := Lib.hid ((below_drewN (Below.refl _ _) k).trans hb2)
  clear hb2 HA HS1
  go_wp2_with fail
  go_ret
  exact ⟨by rw [HQ.out]; rfl, HB2.out⟩
end Js.Cf
end Go.Proofs.YtjohdaobhonioaaGreatDoor
namespace Go.Proofs.YtjohdaobhonioaaGreatDoor
open Go.RowKit Go.Shelf
namespace Js.Cf
attribute [local go_sem] Oper.semAt_some
theorem own_cells {w : World} {base size n : Nat} {e : TypeId} {v : Value} {xs : List Value} (h : w.ownsRow base e size v n xs) {j : Nat} (hj : v.ownBlock = some j) : ∃ cs fz, w.heap[j]? = some (.cells cs e fz) := by
 rcases h.2 with ⟨rfl, _⟩ | ⟨g, cap, cur, rfl, _, hgb, _⟩
 . cases hj
 . injection hj with hj
   subst hj
   exact ⟨_, _, hgb⟩
theorem own_cap {w : World} {base size n cap : Nat} {A : Option Addr} {e : TypeId} {xs : List Value} (h : w.ownsRow base e size (.slice A n cap) n xs) : n ≤ cap /\ ∀ a, A = some a -> a.off = 0 /\ a.spot = none := by
 rcases h.2 with ⟨e1, h0⟩ | ⟨g, cp, cur, e1, _, _, h1, _⟩
 . injection e1 with a _ c
   subst a
   exact ⟨by omega, fun a e => by cases e⟩
 . injection e1 with a _ c
   subst a; subst c
   exact ⟨h1, fun a e => by injection e with e; subst e; exact ⟨rfl, rfl⟩⟩
theorem tx_take (l : List B) (k : Nat) : (tx l).take k = tx (l.take k) := by simp [tx]
set_option maxHeartbeats 4000000 in
set_option maxRecDepth 100000 in
theorem clean_any (s : B) (w : World) (hs : s.length ≤ 1099511627775) :
  Calls Tryz.prog 133 #[.string ⟨s.toArray⟩] w fun e w' => e = .returned (.string ⟨(cleanB s).toArray⟩) /\ Below w.heap.size w w' := by
 obtain ⟨i0, hi, hz0, hz1, hz2⟩ := info_parts infoStr
 obtain ⟨b0, hb0⟩ : ∃ b0, b0 = w.heap.size := ⟨_, rfl⟩
 obtain ⟨W1, hW1⟩ : ∃ W1, W1 = w.alloc (.cells #[.slice none 0 0] 23) := ⟨_, rfl⟩
 have HB1 : Hid (Boxed W1 b0 23 (.slice none 0 0)) := Lib.hid (by rw [hW1, hb0]; exact Boxed.new _ _ _)
 have HS1 : Hid (W1.heap.size = b0 + 1 /\ b0 = w.heap.size /\ Below b0 w W1) := Lib.hid (by rw [hW1, hb0]; exact ⟨by simp, rfl, (Below.refl _ _).alloc (Nat.le_refl _) _⟩)
 obtain ⟨W2, hW2⟩ : ∃ W2, W2 = W1.alloc (.cells #[.string ⟨s.toArray⟩] 9) := ⟨_, rfl⟩
 have hc2 : W2.cell? ⟨b0 + 1, 0, none⟩ = some (.string ⟨s.toArray⟩) := by rw [hW2, <- HS1.out.1]; exact (Blk.new W1 _ _).cell 0
 have HB2 : Hid (Boxed W2 b0 23 (.slice none 0 0)) := Lib.hid (by rw [hW2]; exact HB1.out.alloc _)
 have HS2 : Hid (W2.heap.size = b0 + 2 /\ Below b0 w W2) := Lib.hid (by rw [hW2]; exact ⟨by simp [HS1.out.1], HS1.out.2.2.alloc (by have := HS1.out.1; omega) _⟩)
 refine (callsIn_wide (n := 9)).1 ?_
 refine callsIn_of_wp_marks Tryz.func133 rfl trivial ?_ rfl
 simp only [Tryz.ntmps133, List.size_toArray, List.length_cons, List.length_nil, Nat.reduceAdd, Nat.reduceSub, Array.replicate_succ, Array.replicate_zero, List.push_toArray, List.append_toArray, List.nil_append, List.cons_append]
 gi_wp2_with fail
 refine ⟨trivial, ?_⟩
 refine (callsIn_wide.2 (pieces_any s _)).mono ?_
 rintro e w' ⟨rfl, rfl⟩
 gi_wp2_with fail
 try rw [<- hW1, <- hb0, <- hW2]
 have HW0 : Hid (b0 = w.heap.size) := Lib.hid hb0
 clear hW1 hb0 hW2 HB1
 refine wpIn_range_w (e := 9) rfl (fun h => (by cases h)) (gf := 241) (lb := #[.pointer (some ⟨b0 + 1, 0, none⟩)]) rfl trivial (enters_of Tryz.func241 (by kernel_rfl) rfl)
  (pieces1_seq (9 - 1) s (b0 + 1) W2 (by rw [HS2.out.1]; omega) hc2 (by omega)) (Below.refl _ _) (fun _ => rfl)
  (fun pre W' => (∃ v, Boxed W' b0 23 v /\ W'.ownsRow b0 9 1 v (pre.foldl stepC []).length (tx (pre.foldl stepC [])) /\ True) /\ Below b0 w W')
  (OwnFrom.and (Own.from (holdsRow_own b0 b0 23 9 1 (fun pre : List B => (pre.foldl stepC []).length) (fun pre : List B => tx (pre.foldl stepC [])) (fun _ _ => True)) _) (ownFrom_below (by have := HW0.out; omega) (by rw [HS2.out.1]; omega)))
  ⟨⟨_, HB2.out, World.ownsRow_nil _ _ _ _, trivial⟩, HS2.out.2⟩
  (fun x => { tmps := #[.string ⟨s.toArray⟩, undef, .string ⟨#[]⟩, .pointer (some ⟨b0, 0, none⟩), .string ⟨x.toArray⟩, .string ⟨s.toArray⟩, .func (.func 241) #[] #[.pointer (some ⟨b0 + 1, 0, none⟩)], .string ⟨x.toArray⟩, undef, undef, undef, undef, undef, undef, undef, undef, undef, undef, undef, undef, undef, undef, undef, undef, undef], defers := [] }) ?assign ?body ?done
 case assign =>
  intro l x W K hK
  gi_wp2
  exact hK
 case body =>
  rintro l pre x W hpx ⟨⟨v, hv, hrow, _⟩, hB⟩
  have hbd := fold_len hpx
  have hpl := fold_len (List.IsPrefix.trans (List.prefix_append pre [x]) hpx)
  rw [List.foldl_append, List.foldl_cons, List.foldl_nil] at hbd ⊢
  obtain ⟨st, hst⟩ : ∃ st, st = pre.foldl stepC [] := ⟨_, rfl⟩
  rw [<- hst] at hrow hbd hpl ⊢
  clear hst hpx
  obtain ⟨n, hn⟩ : ∃ n, n = st.length := ⟨_, rfl⟩
  rw [<- hn] at hrow
  have hnl : n ≤ 1099511627776 := by omega
  obtain ⟨A, c, rfl, _⟩ := own_readsN hrow
  have HV := Lib.hid hv
  have HR := Lib.hid hrow
  have HBW := Lib.hid hB
  have HN := Lib.hid hn
  have hc := hv.cell
  have hf := hv.frozen
  clear hv hrow hB hbd hpl hn
  have hnc := (own_cap HR.out).1
  have hmax : max (0 : Int) ((n : Int) - 1) = ((n - 1 : Nat) : Int) := by omega
  have hle : ((n - 1 : Nat) : Int) ≤ (c : Int) := by omega
  have h0 : (0 : Int) ≤ ((n - 1 : Nat) : Int) := by omega
  have hbs : b0 ≤ W.heap.size := by have := HBW.out.size; have := HW0.out; omega
  by_cases h1 : x = [46]
  . subst h1
    gi_wp2
    exact ⟨KeepsS.refl _ _ _, ⟨_, HV.out, by rw [show stepC st [46] = st from rfl, <- HN.out]; exact HR.out, trivial⟩, HBW.out⟩
  . by_cases h2 : x = [46, 46]
    . subst h2
      have HST : Hid ((stepC st [46, 46]).length = n - 1 /\ tx (stepC st [46, 46]) = (tx st).take ((n - 1) * 1)) := Lib.hid (by
       have e : stepC st [46, 46] = st.take (st.length - 1) := rfl
       rw [e, <- HN.out, tx_take, Nat.mul_one, List.length_take]
       exact ⟨by have := HN.out; omega, rfl⟩)
      gi_wp2
      refine ⟨KeepsS.setCell W (by rw [HS2.out.1]; show b0 < _; omega) _, ⟨_, HV.out.set _, ?_, trivial⟩, HBW.out.setCell (p := ⟨b0, 0, none⟩) (Nat.le_refl _) _⟩
      rw [HST.out.1, HST.out.2]
      exact (own_less HR.out (by omega)).kept (grownBy_setCell' W b0 _) (.inr (HV.out.not_row (by decide) (own_less HR.out (n' := n - 1) (by omega))).symm)
    . have e1 : (x == [46]) = false := by simpa using h1
      have e2 : (x == [46, 46]) = false := by simpa using h2
      have HST : Hid (stepC st x = st ++ [x]) := Lib.hid (by unfold stepC; rw [if_neg h1, if_neg h2])
      clear h1 h2
      gi_wp2_with (gi_at_builtin; refine wpListIn_append_own _ rfl _ _ 23 rfl b0 9 i0 (.string .empty) 1 16 Tryz.underlying23 hi hz0 hz1 hz2 rfl (by decide) _ _ _ rfl (HR.out.alloc _) ⟨W.heap.size, 0, none⟩ 1 1 [.string ⟨x.toArray⟩] rfl rfl (cell_one_new _ _ _) (by simp [Value.oneCell']) (by unfold maxLen; omega) (by omega) (by simp; omega) ?_; intro v' w1 hown' hgrow _; obtain ⟨g', cap', rfl⟩ := ownsRow_succ hown'; obtain ⟨hv1, hv2, hr2, _, hb2⟩ := HV.out.appended (by decide) HR.out hbs (Nat.le_refl _) hown' hgrow; have hc1 := hv1.cell; have hf1 := hv1.frozen; have HV2 := Lib.hid hv2; have HR2 := Lib.hid hr2; have HB2 := Lib.hid hb2; have HG := Lib.hid hgrow; clear hv1 hv2 hr2 hb2 hgrow hown')
      refine ⟨((KeepsS.alloc _ _ W _).trans (KeepsS.grown HG.out fun j ej => own_cells (HR.out.alloc _) ej)).trans (KeepsS.setCell _ (by rw [HS2.out.1]; show b0 < _; omega) _), ⟨_, HV2.out, ?_, trivial⟩, HBW.out.trans HB2.out⟩
      rw [HST.out, tx_append, List.length_append, <- HN.out]
      exact HR2.out
 case done =>
  rintro D W hD ⟨⟨v, hv, hrow, _⟩, hB⟩ hK
  have hfl := fold_len (List.prefix_refl (pcs s))
  have HCL : Hid (cleanB s = Lib.join ((pcs s).foldl stepC []) [47]) := Lib.hid (clean_is s)
  obtain ⟨st, hst⟩ : ∃ st, st = (pcs s).foldl stepC [] := ⟨_, rfl⟩
  rw [<- hst] at hrow hfl HCL
  clear hst
  obtain ⟨A, c, rfl, hr⟩ := own_readsN hrow
  obtain ⟨hnc, hoff⟩ := own_cap hrow
  have hj := join_any st A c W hr hoff hnc (by omega)
  have hc := hv.cell
  have HD : Hid (W2.heap.size ≤ D) := Lib.hid hD
  have HK := Lib.hid hK
  have HBW := Lib.hid hB
  have HHJ := Lib.hid hj
  clear hrow hfl hr hnc hoff hj hv hB hK hD
  gi_wp2_with fail
  refine ⟨trivial, ?_⟩
  refine (callsIn_wide.2 HHJ.out).mono ?_
  rintro y W5 ⟨rfl, hb5⟩
  have HK5 : W5.heap[D]? = some (.deferred (some [])) := (hb5.block D (Array.getElem?_eq_some_iff.1 HK.out).1).trans HK.out
  have HB5 : Hid (Below b0 w W5) := Lib.hid (HBW.out.trans (hb5.mono (by have := HBW.out.size; have := HW0.out; omega)))
  clear hb5 HHJ
  gi_wp2
  refine ⟨by simp, .inl ⟨_, _, rfl, run_takeDeferred HK5, ?_⟩⟩
  refine ⟨_, results_tmp rfl _ _ _, ?_, ?_⟩
  . rw [HCL.out]; rfl
  . rw [<- HW0.out]
    exact HB5.out.trans (belowK_b (w := W2) (by rw [HS2.out.1]; omega) W5 D _ _ HD.out HK5 rfl rfl)
end Js.Cf
end Go.Proofs.YtjohdaobhonioaaGreatDoor
