/-
  The walk of package json's (*reader).list at this seat's translation, for every text.
-/
import Derived.Test.YtlfeddgpfaigkaaGreatDoorJsO
import Derived.Deep.RegionWith
import Derived.Deep.LoopGhost
namespace Go.Proofs.YtlfeddgpfaigkaaGreatDoor
open Go.RowKit
namespace Js
/-- Is the next byte, behind blanks, this one? -/
def isC (c : UInt8) (t : List UInt8) : Bool := match bl t with
  | [] => false
  | d :: _ => decide (d = c)
-- <
set_option maxHeartbeats 16000000 in
set_option maxRecDepth 100000 in
theorem list_step (s : List UInt8) (rb m : Nat) (hs : s.length ≤ 4398046511104) (hrb : 9 ≤ rb) (hN : NodeC s rb m) : ListC s rb m := by
  intro p d w hp hm hd hst hr
  have HN := Lib.hid hN
  have HBL := Lib.hid (blanks_any s hs p rb hp w.drew hr)
  have HST := Lib.hid hst
  have HRB := Lib.hid hrb
  have HM := Lib.hid hm
  have HW : Hid (rb < w.heap.size) := Lib.hid (Blk.lt hr)
  clear hN hst hr hrb hm
  obtain ⟨O, hO⟩ : ∃ O, O = listO d (s.drop p) := ⟨_, rfl⟩
  rw [← hO]
  have HO := Lib.hid hO
  clear hO
  go_enter Tryz.func113, Tryz.ntmps113
  go_upto_region 2 with fail
  go_cut [24] (fun z wx => ∃ q : Nat, z = .bool (isC 93 (s.drop p)) ∧ p ≤ q ∧ q ≤ s.length ∧ Hid (s.drop q = bl (s.drop p)) ∧ Hid (Rdr wx rb s q) ∧ Hid (Kp w.heap.size (· = rb) w wx))
  case first =>
    cases hb : bl (s.drop p) with
    | nil =>
      have HI : Hid (isC 93 (s.drop p) = false) := Lib.hid (by unfold isC; rw [hb])
      refine wp_region_held_drew (S := (fun _ => True)) (by kernel_rfl) trivial (fun hHeld => ?_)
      refine wpAnyH_take (i := 0) (oi := { dst := some 11, op := Op.move (Operand.tmp 0), type := 113, pos := "json.go:242", after := #[], guard := none }) (v := ?_) rfl (by kernel_rfl) (by kernel_rfl) (by kernel_rfl) (fun _ _ _ h => h) (Or.inl ⟨by rfl, ?_⟩) trivial ?_
      rotate_left
      · (intro w hSw; (try dsimp only at hSw); go_simp; try with_reducible rfl)
      try simp only [Act.put, List.setIfInBounds_toArray, List.set_cons_zero, List.set_cons_succ]
      refine wpAnyH_ready (rs := [1]) (by kernel_rfl) (by simp) ?_
      refine AllReadyH.cons (o := { dst := some 12, op := Op.call { callee := Callee.value (Operand.func 53), args := #[Operand.tmp 11], argTypes := #[113] }, type := 4, pos := "json.go:242", after := #[{ on := 0, ground := Ground.data }], guard := none }) rfl (fun K hK => ?_) AllReadyH.nil
      rw [if_pos (by rfl)]
      go_simp
      refine HBL.out.mono ?_
      rintro x w1 ⟨q, rfl, hpq, hq, he, hr1, hk1⟩
      obtain rfl : q = s.length := drop_nil_len hq (he.trans hb)
      rw [show decide (s.length < s.length) = false from decide_eq_false (Nat.lt_irrefl _)]
      refine hK.out _ _ trivial (fun _ => ?_)
      clear hK
      try simp only [Act.put, List.setIfInBounds_toArray, List.set_cons_zero, List.set_cons_succ]
      refine wpAnyH_take (i := 2) (oi := { dst := some 13, op := Op.move (Operand.tmp 12), type := 4, pos := "json.go:242", after := #[{ on := 1, ground := Ground.data }, { on := 1, ground := Ground.chain }], guard := none }) (v := ?_) rfl (by kernel_rfl) (by kernel_rfl) (by kernel_rfl) (fun _ _ _ h => h) (Or.inl ⟨by rfl, ?_⟩) trivial ?_
      rotate_left
      · (intro w hSw; (try dsimp only at hSw); go_simp; try with_reducible rfl)
      try simp only [Act.put, List.setIfInBounds_toArray, List.set_cons_zero, List.set_cons_succ]
      refine wpAnyH_take (i := 3) (oi := { dst := some 14, op := Op.move (Operand.tmp 0), type := 113, pos := "json.go:242", after := #[{ on := 2, ground := Ground.guard }], guard := some (2, true) }) (v := undef) rfl (by kernel_rfl) (by kernel_rfl) (by kernel_rfl) (fun _ _ _ h => h) (Or.inr ⟨by rfl, rfl⟩) trivial ?_
      try simp only [Act.put, List.setIfInBounds_toArray, List.set_cons_zero, List.set_cons_succ]
      refine wpAnyH_take (i := 4) (oi := { dst := some 15, op := Op.nilCheck (Operand.tmp 14), type := 0, pos := "json.go:242", after := #[{ on := 3, ground := Ground.data }, { on := 2, ground := Ground.guard }], guard := some (2, true) }) (v := undef) rfl (by kernel_rfl) (by kernel_rfl) (by kernel_rfl) (fun _ _ _ h => h) (Or.inr ⟨by rfl, rfl⟩) trivial ?_
      try simp only [Act.put, List.setIfInBounds_toArray, List.set_cons_zero, List.set_cons_succ]
      refine wpAnyH_take (i := 5) (oi := { dst := some 16, op := Op.fieldAddr 115 (Operand.tmp 15) 0, type := 0, pos := "json.go:242", after := #[{ on := 4, ground := Ground.data }, { on := 2, ground := Ground.guard }], guard := some (2, true) }) (v := undef) rfl (by kernel_rfl) (by kernel_rfl) (by kernel_rfl) (fun _ _ _ h => h) (Or.inr ⟨by rfl, rfl⟩) trivial ?_
      try simp only [Act.put, List.setIfInBounds_toArray, List.set_cons_zero, List.set_cons_succ]
      refine wpAnyH_take (i := 6) (oi := { dst := some 17, op := Op.load 9 (Operand.tmp 16), type := 9, pos := "json.go:242", after := #[{ on := 5, ground := Ground.data }, { on := 2, ground := Ground.guard }], guard := some (2, true) }) (v := undef) rfl (by kernel_rfl) (by kernel_rfl) (by kernel_rfl) (fun _ _ _ h => h) (Or.inr ⟨by rfl, rfl⟩) trivial ?_
      try simp only [Act.put, List.setIfInBounds_toArray, List.set_cons_zero, List.set_cons_succ]
      refine wpAnyH_take (i := 7) (oi := { dst := some 18, op := Op.move (Operand.tmp 0), type := 113, pos := "json.go:242", after := #[{ on := 2, ground := Ground.guard }], guard := some (2, true) }) (v := undef) rfl (by kernel_rfl) (by kernel_rfl) (by kernel_rfl) (fun _ _ _ h => h) (Or.inr ⟨by rfl, rfl⟩) trivial ?_
      try simp only [Act.put, List.setIfInBounds_toArray, List.set_cons_zero, List.set_cons_succ]
      refine wpAnyH_take (i := 8) (oi := { dst := some 19, op := Op.nilCheck (Operand.tmp 18), type := 0, pos := "json.go:242", after := #[{ on := 7, ground := Ground.data }, { on := 2, ground := Ground.guard }], guard := some (2, true) }) (v := undef) rfl (by kernel_rfl) (by kernel_rfl) (by kernel_rfl) (fun _ _ _ h => h) (Or.inr ⟨by rfl, rfl⟩) trivial ?_
      try simp only [Act.put, List.setIfInBounds_toArray, List.set_cons_zero, List.set_cons_succ]
      refine wpAnyH_take (i := 9) (oi := { dst := some 20, op := Op.fieldAddr 115 (Operand.tmp 19) 1, type := 0, pos := "json.go:242", after := #[{ on := 8, ground := Ground.data }, { on := 2, ground := Ground.guard }], guard := some (2, true) }) (v := undef) rfl (by kernel_rfl) (by kernel_rfl) (by kernel_rfl) (fun _ _ _ h => h) (Or.inr ⟨by rfl, rfl⟩) trivial ?_
      try simp only [Act.put, List.setIfInBounds_toArray, List.set_cons_zero, List.set_cons_succ]
      refine wpAnyH_take (i := 10) (oi := { dst := some 21, op := Op.load 3 (Operand.tmp 20), type := 3, pos := "json.go:242", after := #[{ on := 9, ground := Ground.data }, { on := 2, ground := Ground.guard }], guard := some (2, true) }) (v := undef) rfl (by kernel_rfl) (by kernel_rfl) (by kernel_rfl) (fun _ _ _ h => h) (Or.inr ⟨by rfl, rfl⟩) trivial ?_
      try simp only [Act.put, List.setIfInBounds_toArray, List.set_cons_zero, List.set_cons_succ]
      refine wpAnyH_take (i := 11) (oi := { dst := some 22, op := Op.index 9 (Operand.tmp 17) (Operand.tmp 21), type := 5, pos := "json.go:242", after := #[{ on := 6, ground := Ground.data }, { on := 10, ground := Ground.data }, { on := 2, ground := Ground.guard }], guard := some (2, true) }) (v := undef) rfl (by kernel_rfl) (by kernel_rfl) (by kernel_rfl) (fun _ _ _ h => h) (Or.inr ⟨by rfl, rfl⟩) trivial ?_
      try simp only [Act.put, List.setIfInBounds_toArray, List.set_cons_zero, List.set_cons_succ]
      refine wpAnyH_take (i := 12) (oi := { dst := some 23, op := Op.binOp BinOp.eql 5 (Operand.tmp 22) (Operand.const (Value.int IntKind.u8 93)) 5, type := 4, pos := "json.go:242", after := #[{ on := 11, ground := Ground.data }, { on := 2, ground := Ground.guard }], guard := some (2, true) }) (v := undef) rfl (by kernel_rfl) (by kernel_rfl) (by kernel_rfl) (fun _ _ _ h => h) (Or.inr ⟨by rfl, rfl⟩) trivial ?_
      try simp only [Act.put, List.setIfInBounds_toArray, List.set_cons_zero, List.set_cons_succ]
      refine wpAnyH_take (i := 13) (oi := { dst := some 24, op := Op.pick (Operand.tmp 13) (Operand.tmp 23) (Operand.const (Value.bool false)), type := 4, pos := "json.go:242", after := #[{ on := 2, ground := Ground.data }, { on := 12, ground := Ground.data }], guard := none }) (v := ?_) rfl (by kernel_rfl) (by kernel_rfl) (by kernel_rfl) (fun _ _ _ h => h) (Or.inl ⟨by rfl, ?_⟩) trivial ?_
      rotate_left
      · (intro w hSw; (try dsimp only at hSw); go_simp; try with_reducible rfl)
      try simp only [Act.put, List.setIfInBounds_toArray, List.set_cons_zero, List.set_cons_succ]
      refine wpAnyH_done (by kernel_rfl) ?_ _
      go_wp2_with fail
      go_meet
      exact ⟨s.length, by rw [HI.out], hp, Nat.le_refl _, Lib.hid he, Lib.hid hr1, Lib.hid ((Kp.refl _ _ _).drew.trans hk1)⟩
    | cons c r =>
      have HI : Hid (isC 93 (s.drop p) = decide (c = 93)) := Lib.hid (by unfold isC; rw [hb])
      have q1 : ((c.toNat : Int) == 93) = decide (c = 93) := b8 c 93
      generalize decide (c = 93) = z at q1 HI
      go_region_with (refine HBL.out.mono ?_; rintro x w1 ⟨q, rfl, hpq, hq, he, hr1, hk1⟩; obtain ⟨hlt, hg, hdr, _⟩ := drop_cons_at (he.trans hb); have hidx := run_index_list Tryz.underlying9 s q hlt; rw [hg] at hidx; have c0 := hr1.c0; have c1 := hr1.c1; rw [show decide (q < s.length) = true from decide_eq_true hlt])
      all_goals
        go_wp2_with fail
        go_meet
        exact ⟨q, by rw [HI.out], hpq, hq, Lib.hid he, Lib.hid hr1, Lib.hid ((Kp.refl _ _ _).drew.trans hk1)⟩
  case rest =>
    obtain ⟨q, rfl, hpq, hq, HE, HR, HK⟩ := hcut
    by_cases hi : isC 93 (s.drop p) = true
    · rw [hi]
      have HO1 : Hid (∃ r, bl (s.drop p) = 93 :: r) := Lib.hid (by
        unfold isC at hi
        cases hb : bl (s.drop p) with
        | nil => rw [hb] at hi; cases hi
        | cons c r => rw [hb] at hi; simp at hi; subst hi; exact ⟨r, rfl⟩)
      clear hi
      have c1 := HR.out.c1
      have f1 := Blk.frozen HR.out 1
      go_wp2_with fail
      go_ret2
      obtain ⟨r, hb⟩ := HO1.out
      obtain ⟨hlt, _, hdr, _⟩ := drop_cons_at (HE.out.trans hb)
      have hO2 : O = .ok (plainH 5) .nil r := by rw [HO.out]; unfold listO opn; rw [hb]; simp
      rw [hO2]
      exact ⟨_, q + 1, fun _ => False, rfl, ⟨none, 0, none, 0, [], rfl, by simp [F.len], ⟨by simp [plainH], fun _ _ => ⟨rfl, rfl⟩⟩, RdS.none_, rfl, RdS.none_⟩, fun _ h => h.elim, by omega, hdr.symm, HR.out.to (q + 1) _ (by omega), HK.out.rdr _⟩
    · rw [Bool.not_eq_true] at hi
      rw [hi]
      have HO1 : Hid (O = items d (s.drop q)) := Lib.hid (by
        rw [HE.out, items_bl, HO.out]
        unfold listO opn
        unfold isC at hi
        cases hb : bl (s.drop p) with
        | nil => rfl
        | cons c r => rw [hb] at hi; simp at hi; simp only; rw [if_neg hi])
      clear hi HBL HE HO
      go_wp2_with fail
      go_loopg [6] (s.length + 1) (fun gk v wr => ∃ (q : Nat) (f : F), p ≤ q ∧ q ≤ s.length ∧ s.length - q < gk ∧ f.len ≤ q ∧ Hid (TL (encN true) wr w.heap.size (fun _ => False) 87 v f) ∧ Hid (O = (items d (s.drop q)).consF f) ∧ Hid (Rdr wr rb s q) ∧ Hid (Kp w.heap.size (· = rb) w wr))
      case atStart => exact ⟨q, .nil, hpq, hq, by omega, by simp [F.len], Lib.hid (TL.nil _ _ _ _ _), Lib.hid (by rw [HO1.out, Out.consF_nil]), HR, HK⟩
      case round =>
        clear HR HK HO1
        obtain ⟨q1, f, hpq1, hq1, hgk, hfq, HL, HO, HR, HK⟩ := hrel
        have e1 : ((d + 1 : Nat) : Int) = (d : Int) + 1 := by omega
        have HC := Lib.hid (HN.out q1 (d + 1) wr hq1 (by have := HM.out; omega) (by omega) (HST.out.rdr HK.out HRB.out) HR.out)
        rw [e1] at HC
        have HI := Lib.hid (items_eq d (s.drop q1))
        clear e1
        cases hV : val (d + 1) (s.drop q1) with
        | err no r =>
          have HP : Hid (O = .err no r) := Lib.hid (by rw [HO.out, HI.out, hV]; rfl)
          rw [hV] at HC
          clear hV HI HO HR
          go_wp2_with fail
          refine HC.out.mono ?_
          rintro x w1 ⟨u, q2, a, rfl, hlen, hq2, hr2, hk2⟩
          have HR2 := Lib.hid hr2
          have HK2 := Lib.hid (HK.out.trans (hk2.less HK.out.size))
          have HLen := Lib.hid hlen
          clear hr2 hk2 hlen HC
          unfold faultV
          go_wp2
          go_ret2
          rw [HP.out]
          exact ⟨_, q2, a, rfl, HLen.out, hq2, HR2.out, HK2.out⟩
        | ok h k r =>
          rw [hV] at HC
          have hvl := val_len hV
          have HP : Hid (O = (match nx 93 r with
            | .err no q => Out.err no q
            | .fin q => .ok (plainH 5) (.cons h k .nil) q
            | .more q => (items d q).consL h k).consF f) := Lib.hid (by rw [HO.out, HI.out, hV]; rfl)
          clear hV HI HO HR
          go_wp2_with fail
          refine HC.out.mono ?_
          rintro x w1 ⟨u, q2, S, rfl, htv, hS, hq2, rfl, hr2, hk2⟩
          obtain ⟨T, y, rfl⟩ := htv.iface
          rw [List.length_drop, List.length_drop] at hvl
          have hq12 : q1 < q2 := by omega
          have hwr : w.heap.size ≤ wr.heap.size := HK.out.size
          have hw1 : wr.heap.size ≤ w1.heap.size := hk2.size
          have HR2 := Lib.hid hr2
          have HK2 := Lib.hid (HK.out.trans (hk2.less HK.out.size))
          have HL2 := Lib.hid (HL.out.kp hk2 hwr (Nat.le_refl _) (fun b h1 h2 e => by have := HW.out; omega) (fun b hb => hb.elim))
          have HS : Hid (∀ b, S b → (w.heap.size ≤ b ∧ b < (w1.alloc (.cells #[.iface T y] 87)).heap.size ∧ u6.ownBlock ≠ some b) ∨ (False ∧ b < w.heap.size)) := Lib.hid (fun b hb => .inl ⟨by have := (hS b hb).1; omega, by have := (hS b hb).2; simp; omega, fun e => by have := HL.out.own e; have := (hS b hb).1; omega⟩)
          have HTV : Hid (TR (encN true) (w1.alloc (.cells #[.iface T y] 87)) S (.cons h k .nil) [.iface T y]) := Lib.hid (htv.kept fun p hp => World.cell?_alloc_lt _ _ _ (hS _ hp).2).tr
          clear hr2 hk2 htv hS HC HL HK hvl
          go_wp2_with (at_builtin; refine wpList_push rfl 158 Tryz.underlying158 _ _ rfl true w.heap.size _ (fun _ => False) _ f rfl (HL2.out.alloc (by omega) _) _ 1 1 [.iface T y] rfl (Reads.one (cell_new1 _ _ _) (by simp)) S _ HTV.out rfl HS.out (by omega) (by simp; omega) ?_)
          intro v3 w3 hL3 hk3
          have hw3 : w.heap.size ≤ w3.heap.size := by have := hk3.size; simp at this; omega
          have HK3 := Lib.hid ((HK2.out.alloc (by omega) _).trans (hk3.mono (Nat.le_refl _) (fun _ _ h => h.elim)))
          have HR3 : Hid (Rdr w3 rb s q2) := Lib.hid (hk3.blk (Blk.alloc HR2.out _) HW.out id)
          have HL3 := Lib.hid hL3
          clear hL3 hk3 HR2 HK2 HL2 HS HTV
          cases hb : bl (s.drop q2) with
          | nil =>
            have HP1 : Hid (O = .err 2 []) := Lib.hid (by rw [HP.out]; unfold nx; rw [hb]; rfl)
            have HX := Lib.hid (next_short s hs q2 rb hq2 [44, 93] hb w3 HR3.out)
            unfold faultV at HX
            clear hb HP
            go_wp2_with fail
            refine HX.out.mono ?_
            rintro x w4 ⟨q3, rfl, hq23, hq3, hr4, hk4⟩
            have HR4 := Lib.hid hr4
            have HK4 := Lib.hid (HK3.out.trans (hk4.less hw3))
            clear hr4 hk4 HX
            go_wp2
            go_ret2
            rw [HP1.out]
            exact ⟨_, q3, s.length, rfl, by simp, hq3, HR4.out, HK4.out⟩
          | cons c r =>
            obtain ⟨hc1, _⟩ := drop_cons_at (s := bl (s.drop q2)) (q := 0) (by rw [List.drop_zero, hb])
            have hlen : ∃ a : Nat, a + r.length + 1 = s.length := by
              have := bl_len (s.drop q2)
              rw [hb, List.length_drop, List.length_cons] at this
              exact ⟨s.length - r.length - 1, by omega⟩
            obtain ⟨a, ha⟩ := hlen
            clear hc1
            by_cases h44 : c = 44
            · subst h44
              have HP1 : Hid (O = (items d r).consF (f.app (.cons h k .nil))) := Lib.hid (by rw [HP.out]; unfold nx; rw [hb]; simp only [if_true]; rw [Out.consF_snoc])
              have HX := Lib.hid (next_ok s hs q2 rb hq2 [44, 93] 44 r hb (by decide) w3 HR3.out)
              clear hb HP
              go_wp2_with fail
              refine HX.out.mono ?_
              rintro x w4 ⟨q3, rfl, hq23, hq3, hd3, _, hr4, hk4⟩
              have HR4 := Lib.hid hr4
              have HK4 := Lib.hid (HK3.out.trans (hk4.less hw3))
              have HL4 := Lib.hid (HL3.out.kp hk4 hw3 (Nat.le_refl _) (fun b h1 h2 e => by have := HW.out; omega) (fun b hb => hb.elim))
              have HD := Lib.hid hd3
              have e44 : ((UInt8.toNat 44 : Nat) : Int) = 44 := rfl
              rw [e44]
              clear hr4 hk4 HX hd3 e44
              go_wp2_with fail
              go_roundg (gk - 1)
              case measure => omega
              case rel => exact ⟨q3, f.app (.cons h k .nil), by omega, hq3, by omega, by rw [F.len_app]; simp [F.len]; omega, HL4, Lib.hid (by rw [HP1.out, HD.out]), HR4, HK4⟩
            · by_cases h93 : c = 93
              · subst h93
                have HP1 : Hid (O = .ok (plainH 5) (f.app (.cons h k .nil)) r) := Lib.hid (by rw [HP.out]; unfold nx; rw [hb]; simp [Out.consF])
                have HX := Lib.hid (next_ok s hs q2 rb hq2 [44, 93] 93 r hb (by decide) w3 HR3.out)
                clear hb HP h44
                go_wp2_with fail
                refine HX.out.mono ?_
                rintro x w4 ⟨q3, rfl, hq23, hq3, hd3, _, hr4, hk4⟩
                have HR4 := Lib.hid hr4
                have HK4 := Lib.hid (HK3.out.trans (hk4.less hw3))
                have HL4 := Lib.hid (HL3.out.kp hk4 hw3 (Nat.le_refl _) (fun b h1 h2 e => by have := HW.out; omega) (fun b hb => hb.elim))
                have HD := Lib.hid hd3
                have e93 : ((UInt8.toNat 93 : Nat) : Int) = 93 := rfl
                rw [e93]
                clear hr4 hk4 HX hd3 e93
                go_wp2
                go_ret2
                rw [HP1.out]
                obtain ⟨S5, hT5, hS5⟩ := HL4.out.node (by rw [F.len_app]; simp [F.len]; omega)
                exact ⟨_, q3, S5, rfl, hT5, hS5, hq3, HD.out.symm, HR4.out, HK4.out⟩
              · have HP1 : Hid (O = .err 4 (c :: r)) := Lib.hid (by rw [HP.out]; unfold nx; rw [hb]; simp only; rw [if_neg h44, if_neg h93]; rfl)
                have HX := Lib.hid (next_bad s hs q2 rb hq2 [44, 93] c r hb (idx_neg (by simp [h44, h93])) a ha w3 HR3.out)
                unfold faultV at HX
                clear hb HP h44 h93
                go_wp2_with fail
                refine HX.out.mono ?_
                rintro x w4 ⟨q3, rfl, hq23, hq3, hr4, hk4⟩
                have HR4 := Lib.hid hr4
                have HK4 := Lib.hid (HK3.out.trans (hk4.less hw3))
                clear hr4 hk4 HX
                go_wp2
                go_ret2
                rw [HP1.out]
                exact ⟨_, q3, a, rfl, by simp; omega, hq3, HR4.out, HK4.out⟩
-- >
end Js
end Go.Proofs.YtlfeddgpfaigkaaGreatDoor
