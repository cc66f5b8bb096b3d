/-
  Joined: DiX, DiW, DiY, DiV.
-/
import Derived.Test.YtgjelinnpcekmaaGreatDoorDiK
namespace Go.Proofs.YtgjelinnpcekmaaGreatDoor
open Go.RowKit Err Plain Sha
namespace DK

def noneT : List UInt8 := [115, 104, 97, 50, 53, 54, 58, 101, 51, 98, 48, 99, 52, 52, 50, 57, 56, 102, 99, 49, 99, 49, 52, 57, 97, 102, 98, 102, 52, 99, 56, 57, 57, 54, 102] ++ [98, 57, 50, 52, 50, 55, 97, 101, 52, 49, 101, 52, 54, 52, 57, 98, 57, 51, 52, 99, 97, 52, 57, 53, 57, 57, 49, 98, 55, 56, 53, 50, 98, 56, 53, 53]
theorem none_known : digText (Sha.digest 32 []) = noneT := by decide +kernel
theorem abc_known99 : digText (Sha.digest 99 [97, 98, 99]) = abcT := by decide +kernel
-- <
set_option maxHeartbeats 4000000 in
set_option maxRecDepth 100000 in
theorem shown_any (w : World) (ht : Tabs w) : Calls Tryz.prog 4 #[] w (TruePost w w) := by
  have HT := Lib.hid ht
  clear ht
  have HX := Lib.hid (fun wx => Text_any (Sha.digest 32 []) (Sha.digest_length _ _) wx)
  rw [none_known] at HX
  have HY := Lib.hid (fun wx => Text_any (Sha.digest 99 [97, 98, 99]) (Sha.digest_length _ _) wx)
  rw [abc_known99] at HY
  go_enter Tryz.func4, Tryz.ntmps4
  go_wp2_with fail
  refine (dsum_any 32 [] w HT.out.k HT.out.k.lt (by simp)).mono ?_
  rintro e w1 ⟨rfl, hb1⟩
  have H1 : Kn w w1 := (Kn.refl w).then hb1
  clear hb1
  go_wp2_with fail
  refine (HX.out w1).mono ?_
  rintro e w2 ⟨rfl, hb2⟩
  have H2 : Kn w w2 := H1.then hb2
  clear hb2
  go_wp2_with fail
  refine (dsum_any 99 [97, 98, 99] w2 (H2.tabs HT.out).k (H2.tabs HT.out).k.lt (by simp)).mono ?_
  rintro e w3 ⟨rfl, hb3⟩
  have H3 : Kn w w3 := H2.then hb3
  clear hb3
  go_wp2_with fail
  refine (HY.out w3).mono ?_
  rintro e w4 ⟨rfl, hb4⟩
  have H4 : Kn w w4 := H3.then hb4
  clear hb4
  go_wp2_with fail
  refine (works_k HT.out H4).mono ?_
  rintro e w5 ⟨rfl, h5, _⟩
  go_wp2_with fail
  go_ret
  exact ⟨rfl, h5, h5⟩
-- >
end DK
end Go.Proofs.YtgjelinnpcekmaaGreatDoor
namespace Go.Proofs.YtgjelinnpcekmaaGreatDoor
open Go.RowKit Err Plain Sha
namespace DK

/-- A row of texts that was just made. -/
theorem row_new (w : World) (xs : Array Value) (t : TypeId) {m : Nat} (hs : SRow m xs.toList) : ∃ l, Reads (w.alloc (.cells xs t)) (w.alloc (.cells xs t)).heap.size 1 (some ⟨w.heap.size, 0, none⟩) xs.size (tx l) ∧ total l ≤ m * xs.size ∧ l.length = xs.size := by
  obtain ⟨l, h1, h2, h3⟩ := srow_tx hs
  refine ⟨l, ?_, by simpa using h2, by simpa using h3⟩
  rw [← h1]
  exact Reads.of_block (heap_alloc_new w _) (by simp)
-- <
set_option maxHeartbeats 8000000 in
set_option maxRecDepth 100000 in
theorem sums_any (w : World) (ht : Tabs w) : Calls Tryz.prog 5 #[] w (TruePost w w) := by
  have HT := Lib.hid ht
  clear ht
  go_enter Tryz.func5, Tryz.ntmps5
  go_wp2_with fail
  go_loopw [1, 2] (fun s i wx => ∃ (n : Nat) (p : ByteArray), n ≤ 301 ∧ s = .string p ∧ i = .int .i64 n ∧ Hid (p.size = n) ∧ Hid (Kn w wx)) (fun _ i _ => 301 - (intOf i).toNat)
  case atStart => exact ⟨0, _, by omega, rfl, rfl, Lib.hid rfl, Lib.hid (Kn.refl w)⟩
  case round =>
    obtain ⟨n, p, hn, rfl, rfl, HP, HK⟩ := hrel
    obtain ⟨w1, hw1⟩ : ∃ w1 : World, w1 = wr := ⟨_, rfl⟩
    subst hw1
    by_cases hlt : n ≤ 300
    · have hps : p.size ≤ 301 := by have := HP.out; omega
      have hl3 : decide ((n : Int) ≤ 300) = true := by rw [decide_eq_true_iff]; omega
      have hk0 : Kn w w1.drew := HK.out.drew
      go_upto_region 5 with fail
      go_cut [39] (fun z wx => z = .bool false ∧ Hid (Kn w wx))
      case first =>
        by_cases h1 : 115 < n
        · have b1 : decide ((115 : Int) < (n : Int)) = true := by rw [decide_eq_true_iff]; omega
          by_cases h2 : n < 125
          · have b2 : decide ((n : Int) < 125) = true := by rw [decide_eq_true_iff]; omega
            obtain ⟨j, hj, hj2⟩ : ∃ j : Nat, (n : Int) % 64 = (j : Int) ∧ j < 64 := ⟨n % 64, by omega, by omega⟩
            obtain ⟨k, hk, hk2⟩ : ∃ k : Nat, (n : Int) % 34 = (k : Int) ∧ k < 34 := ⟨n % 34, by omega, by omega⟩
            have hm1 : (n : Int).tmod 64 = (j : Int) := by rw [IntWalk.rem_in _ _ (by omega), hj]
            have hm2 : (n : Int).tmod 34 = (k : Int) := by rw [IntWalk.rem_in _ _ (by omega), hk]
            have hps2 : 64 ≤ p.size := by have := HP.out; omega
            have hi1 : (0 : Int) ≤ (j : Int) := by omega
            have hi2 : (j : Int) ≤ (p.size : Int) := by omega
            have hi3 : (j : Int) ≤ 64 := by omega
            have hi4 : (64 : Int) ≤ (p.size : Int) := by omega
            go_region_held3 (fun wy => Kn w wy) ((first | assumption | exact Kn.alloc (by assumption) _)) ((first | (go_at_call 12; refine (sums_k (w := w) _ _ (by omega) HT.out (by assumption)).mono ?_; rintro e wv ⟨rfl, hkn, hkx⟩) | (go_at_call 13; obtain ⟨l, hl1, hl2, hl3⟩ := row_new (m := 301) wv #[.string (p.extract 0 j), .string (p.extract j 64), .string (p.extract 64 p.size), .string ⟨#[]⟩] 9 (by intro x hx; simp only [List.mem_cons, List.not_mem_nil, or_false] at hx; rcases hx with rfl | rfl | rfl | rfl; exact ⟨_, rfl, by rw [ByteArray.size_extract]; omega⟩; exact ⟨_, rfl, by rw [ByteArray.size_extract]; omega⟩; exact ⟨_, rfl, by rw [ByteArray.size_extract]; omega⟩; exact ⟨_, rfl, by decide⟩); have hl4 : l.length = 4 := hl3; have hl5 : total l ≤ 301 * 4 := hl2; refine (parted_k (w := w) _ _ 4 4 l hl1 (by decide) (by omega) HT.out (by first | assumption | exact Kn.alloc (by assumption) _)).mono ?_; rintro e wv ⟨rfl, hkn, hkx⟩)))
            go_wp2_with fail
            go_meet
            exact ⟨rfl, Lib.hid (by assumption)⟩
          · have b2 : decide ((n : Int) < 125) = false := by rw [decide_eq_false_iff_not]; omega
            have HSU : Hid (∀ wy, Kn w wy → Calls Tryz.prog 12 #[.int .i64 32, .string p] wy (fun e w' => e = .returned (.bool true) ∧ Below wy.heap.size wy w')) := Lib.hid (fun wy h => (sums_k (w := w) 32 p (by omega) HT.out h).mono fun _ _ hp => ⟨hp.1, hp.2.2⟩)
            have HKP : Hid (∀ wy w', Kn w wy → Below wy.heap.size wy w' → Kn w w') := Lib.hid (fun wy w' h hb => h.then hb)
            have HS0 : Hid (Kn w w1.drew) := Lib.hid hk0
            refine wp_region_held_drew (S := (fun wy => Kn w wy)) (by kernel_rfl) HS0.out (fun hHeld => ?_)
            refine wpAnyH_take (i := 0) (oi := { dst := some 12, op := Op.move (Operand.tmp 1), type := 9, pos := "edges.go:24", after := #[], guard := none }) (v := ?_) rfl (by kernel_rfl) (by kernel_rfl) (by kernel_rfl) (fun _ _ _ h => h) (Or.inl ⟨by rfl, ?_⟩) (by assumption) ?_
            rotate_left
            · (intro w hSw; (try dsimp only at hSw); go_simp; try with_reducible rfl)
            try simp only [Act.put, List.setIfInBounds_toArray, List.set_cons_zero, List.set_cons_succ]
            refine wpAnyH_ready (rs := [1]) (by kernel_rfl) (by simp) ?_
            refine AllReadyH.cons (o := { dst := some 13, op := Op.call { callee := Callee.value (Operand.func 12), args := #[Operand.const (Value.int IntKind.i64 32), Operand.tmp 12], argTypes := #[3, 9] }, type := 4, pos := "edges.go:24", after := #[{ on := 0, ground := Ground.data }], guard := none }) rfl (fun K hK => ?_) AllReadyH.nil
            rw [if_pos (by rfl)]
            go_simp
            refine (HSU.out _ (by assumption)).mono ?_
            rintro e wn ⟨rfl, hbn⟩
            have hSn := HKP.out _ _ (by assumption) hbn
            refine hK.out _ _ hSn (fun hHeld => ?_)
            clear hK hSn hbn
            try simp only [Act.put, List.setIfInBounds_toArray, List.set_cons_zero, List.set_cons_succ]
            refine wpAnyH_take (i := 2) (oi := { dst := some 14, op := Op.unOp UnOp.not 4 (Operand.tmp 13), type := 4, pos := "edges.go:24", after := #[{ on := 1, ground := Ground.data }], guard := none }) (v := ?_) rfl (by kernel_rfl) (by kernel_rfl) (by kernel_rfl) (fun _ _ _ h => h) (Or.inl ⟨by rfl, ?_⟩) (by assumption) ?_
            rotate_left
            · (intro w hSw; (try dsimp only at hSw); go_simp; try with_reducible rfl)
            try simp only [Act.put, List.setIfInBounds_toArray, List.set_cons_zero, List.set_cons_succ]
            refine wpAnyH_take (i := 3) (oi := { dst := some 15, op := Op.move (Operand.tmp 14), type := 4, pos := "edges.go:24", after := #[{ on := 2, ground := Ground.data }, { on := 1, ground := Ground.chain }], guard := none }) (v := ?_) rfl (by kernel_rfl) (by kernel_rfl) (by kernel_rfl) (fun _ _ _ h => h) (Or.inl ⟨by rfl, ?_⟩) (by assumption) ?_
            rotate_left
            · (intro w hSw; (try dsimp only at hSw); go_simp; try with_reducible rfl)
            try simp only [Act.put, List.setIfInBounds_toArray, List.set_cons_zero, List.set_cons_succ]
            refine wpAnyH_take (i := 4) (oi := { dst := some 16, op := Op.move (Operand.tmp 2), type := 3, pos := "edges.go:24", after := #[{ on := 3, ground := Ground.guard }], guard := some (3, false) }) (v := ?_) rfl (by kernel_rfl) (by kernel_rfl) (by kernel_rfl) (fun _ _ _ h => h) (Or.inl ⟨by rfl, ?_⟩) (by assumption) ?_
            rotate_left
            · (intro w hSw; (try dsimp only at hSw); go_simp; try with_reducible rfl)
            try simp only [Act.put, List.setIfInBounds_toArray, List.set_cons_zero, List.set_cons_succ]
            refine wpAnyH_take (i := 5) (oi := { dst := some 17, op := Op.binOp BinOp.gtr 3 (Operand.tmp 16) (Operand.const (Value.int IntKind.i64 115)) 3, type := 4, pos := "edges.go:24", after := #[{ on := 4, ground := Ground.data }, { on := 3, ground := Ground.guard }], guard := some (3, false) }) (v := ?_) rfl (by kernel_rfl) (by kernel_rfl) (by kernel_rfl) (fun _ _ _ h => h) (Or.inl ⟨by rfl, ?_⟩) (by assumption) ?_
            rotate_left
            · (intro w hSw; (try dsimp only at hSw); go_simp; try with_reducible rfl)
            try simp only [Act.put, List.setIfInBounds_toArray, List.set_cons_zero, List.set_cons_succ]
            refine wpAnyH_take (i := 6) (oi := { dst := some 18, op := Op.move (Operand.tmp 17), type := 4, pos := "edges.go:24", after := #[{ on := 5, ground := Ground.data }, { on := 3, ground := Ground.chain }, { on := 3, ground := Ground.guard }], guard := some (3, false) }) (v := ?_) rfl (by kernel_rfl) (by kernel_rfl) (by kernel_rfl) (fun _ _ _ h => h) (Or.inl ⟨by rfl, ?_⟩) (by assumption) ?_
            rotate_left
            · (intro w hSw; (try dsimp only at hSw); go_simp; try with_reducible rfl)
            try simp only [Act.put, List.setIfInBounds_toArray, List.set_cons_zero, List.set_cons_succ]
            refine wpAnyH_take (i := 7) (oi := { dst := some 19, op := Op.move (Operand.tmp 2), type := 3, pos := "edges.go:24", after := #[{ on := 6, ground := Ground.guard }], guard := some (6, true) }) (v := ?_) rfl (by kernel_rfl) (by kernel_rfl) (by kernel_rfl) (fun _ _ _ h => h) (Or.inl ⟨by rfl, ?_⟩) (by assumption) ?_
            rotate_left
            · (intro w hSw; (try dsimp only at hSw); go_simp; try with_reducible rfl)
            try simp only [Act.put, List.setIfInBounds_toArray, List.set_cons_zero, List.set_cons_succ]
            refine wpAnyH_take (i := 8) (oi := { dst := some 20, op := Op.binOp BinOp.lss 3 (Operand.tmp 19) (Operand.const (Value.int IntKind.i64 125)) 3, type := 4, pos := "edges.go:24", after := #[{ on := 7, ground := Ground.data }, { on := 6, ground := Ground.guard }], guard := some (6, true) }) (v := ?_) rfl (by kernel_rfl) (by kernel_rfl) (by kernel_rfl) (fun _ _ _ h => h) (Or.inl ⟨by rfl, ?_⟩) (by assumption) ?_
            rotate_left
            · (intro w hSw; (try dsimp only at hSw); go_simp; try with_reducible rfl)
            try simp only [Act.put, List.setIfInBounds_toArray, List.set_cons_zero, List.set_cons_succ]
            refine wpAnyH_take (i := 9) (oi := { dst := some 21, op := Op.pick (Operand.tmp 18) (Operand.tmp 20) (Operand.const (Value.bool false)), type := 4, pos := "edges.go:24", after := #[{ on := 6, ground := Ground.data }, { on := 8, ground := Ground.data }, { on := 3, ground := Ground.guard }], guard := some (3, false) }) (v := ?_) rfl (by kernel_rfl) (by kernel_rfl) (by kernel_rfl) (fun _ _ _ h => h) (Or.inl ⟨by rfl, ?_⟩) (by assumption) ?_
            rotate_left
            · (intro w hSw; (try dsimp only at hSw); go_simp; try with_reducible rfl)
            try simp only [Act.put, List.setIfInBounds_toArray, List.set_cons_zero, List.set_cons_succ]
            refine wpAnyH_take (i := 10) (oi := { dst := some 22, op := Op.move (Operand.tmp 21), type := 4, pos := "edges.go:24", after := #[{ on := 9, ground := Ground.data }, { on := 6, ground := Ground.chain }, { on := 3, ground := Ground.guard }], guard := some (3, false) }) (v := ?_) rfl (by kernel_rfl) (by kernel_rfl) (by kernel_rfl) (fun _ _ _ h => h) (Or.inl ⟨by rfl, ?_⟩) (by assumption) ?_
            rotate_left
            · (intro w hSw; (try dsimp only at hSw); go_simp; try with_reducible rfl)
            try simp only [Act.put, List.setIfInBounds_toArray, List.set_cons_zero, List.set_cons_succ]
            refine wpAnyH_take (i := 11) (oi := { dst := some 23, op := Op.move (Operand.tmp 2), type := 3, pos := "edges.go:24", after := #[{ on := 10, ground := Ground.guard }], guard := some (10, true) }) (v := undef) rfl (by kernel_rfl) (by kernel_rfl) (by kernel_rfl) (fun _ _ _ h => h) (Or.inr ⟨by rfl, rfl⟩) (by assumption) ?_
            try simp only [Act.put, List.setIfInBounds_toArray, List.set_cons_zero, List.set_cons_succ]
            refine wpAnyH_take (i := 12) (oi := { dst := some 24, op := Op.binOp BinOp.rem 3 (Operand.tmp 23) (Operand.const (Value.int IntKind.i64 34)) 3, type := 3, pos := "edges.go:24", after := #[{ on := 11, ground := Ground.data }, { on := 10, ground := Ground.guard }], guard := some (10, true) }) (v := undef) rfl (by kernel_rfl) (by kernel_rfl) (by kernel_rfl) (fun _ _ _ h => h) (Or.inr ⟨by rfl, rfl⟩) (by assumption) ?_
            try simp only [Act.put, List.setIfInBounds_toArray, List.set_cons_zero, List.set_cons_succ]
            refine wpAnyH_take (i := 13) (oi := { dst := some 25, op := Op.move (Operand.tmp 1), type := 9, pos := "edges.go:24", after := #[{ on := 10, ground := Ground.guard }], guard := some (10, true) }) (v := undef) rfl (by kernel_rfl) (by kernel_rfl) (by kernel_rfl) (fun _ _ _ h => h) (Or.inr ⟨by rfl, rfl⟩) (by assumption) ?_
            try simp only [Act.put, List.setIfInBounds_toArray, List.set_cons_zero, List.set_cons_succ]
            refine wpAnyH_take (i := 14) (oi := { dst := some 26, op := Op.move (Operand.tmp 2), type := 3, pos := "edges.go:24", after := #[{ on := 10, ground := Ground.guard }], guard := some (10, true) }) (v := undef) rfl (by kernel_rfl) (by kernel_rfl) (by kernel_rfl) (fun _ _ _ h => h) (Or.inr ⟨by rfl, rfl⟩) (by assumption) ?_
            try simp only [Act.put, List.setIfInBounds_toArray, List.set_cons_zero, List.set_cons_succ]
            refine wpAnyH_take (i := 15) (oi := { dst := some 27, op := Op.binOp BinOp.rem 3 (Operand.tmp 26) (Operand.const (Value.int IntKind.i64 64)) 3, type := 3, pos := "edges.go:24", after := #[{ on := 14, ground := Ground.data }, { on := 10, ground := Ground.guard }], guard := some (10, true) }) (v := undef) rfl (by kernel_rfl) (by kernel_rfl) (by kernel_rfl) (fun _ _ _ h => h) (Or.inr ⟨by rfl, rfl⟩) (by assumption) ?_
            try simp only [Act.put, List.setIfInBounds_toArray, List.set_cons_zero, List.set_cons_succ]
            refine wpAnyH_take (i := 16) (oi := { dst := some 28, op := Op.slice 9 (Operand.tmp 25) none (some (Operand.tmp 27)) none, type := 9, pos := "edges.go:24", after := #[{ on := 13, ground := Ground.data }, { on := 15, ground := Ground.data }, { on := 10, ground := Ground.guard }], guard := some (10, true) }) (v := undef) rfl (by kernel_rfl) (by kernel_rfl) (by kernel_rfl) (fun _ _ _ h => h) (Or.inr ⟨by rfl, rfl⟩) (by assumption) ?_
            try simp only [Act.put, List.setIfInBounds_toArray, List.set_cons_zero, List.set_cons_succ]
            refine wpAnyH_take (i := 17) (oi := { dst := some 29, op := Op.move (Operand.tmp 1), type := 9, pos := "edges.go:24", after := #[{ on := 10, ground := Ground.guard }], guard := some (10, true) }) (v := undef) rfl (by kernel_rfl) (by kernel_rfl) (by kernel_rfl) (fun _ _ _ h => h) (Or.inr ⟨by rfl, rfl⟩) (by assumption) ?_
            try simp only [Act.put, List.setIfInBounds_toArray, List.set_cons_zero, List.set_cons_succ]
            refine wpAnyH_take (i := 18) (oi := { dst := some 30, op := Op.move (Operand.tmp 2), type := 3, pos := "edges.go:24", after := #[{ on := 10, ground := Ground.guard }], guard := some (10, true) }) (v := undef) rfl (by kernel_rfl) (by kernel_rfl) (by kernel_rfl) (fun _ _ _ h => h) (Or.inr ⟨by rfl, rfl⟩) (by assumption) ?_
            try simp only [Act.put, List.setIfInBounds_toArray, List.set_cons_zero, List.set_cons_succ]
            refine wpAnyH_take (i := 19) (oi := { dst := some 31, op := Op.binOp BinOp.rem 3 (Operand.tmp 30) (Operand.const (Value.int IntKind.i64 64)) 3, type := 3, pos := "edges.go:24", after := #[{ on := 18, ground := Ground.data }, { on := 10, ground := Ground.guard }], guard := some (10, true) }) (v := undef) rfl (by kernel_rfl) (by kernel_rfl) (by kernel_rfl) (fun _ _ _ h => h) (Or.inr ⟨by rfl, rfl⟩) (by assumption) ?_
            try simp only [Act.put, List.setIfInBounds_toArray, List.set_cons_zero, List.set_cons_succ]
            refine wpAnyH_take (i := 20) (oi := { dst := some 32, op := Op.slice 9 (Operand.tmp 29) (some (Operand.tmp 31)) (some (Operand.const (Value.int IntKind.i64 64))) none, type := 9, pos := "edges.go:24", after := #[{ on := 17, ground := Ground.data }, { on := 19, ground := Ground.data }, { on := 10, ground := Ground.guard }], guard := some (10, true) }) (v := undef) rfl (by kernel_rfl) (by kernel_rfl) (by kernel_rfl) (fun _ _ _ h => h) (Or.inr ⟨by rfl, rfl⟩) (by assumption) ?_
            try simp only [Act.put, List.setIfInBounds_toArray, List.set_cons_zero, List.set_cons_succ]
            refine wpAnyH_take (i := 21) (oi := { dst := some 33, op := Op.move (Operand.tmp 1), type := 9, pos := "edges.go:24", after := #[{ on := 10, ground := Ground.guard }], guard := some (10, true) }) (v := undef) rfl (by kernel_rfl) (by kernel_rfl) (by kernel_rfl) (fun _ _ _ h => h) (Or.inr ⟨by rfl, rfl⟩) (by assumption) ?_
            try simp only [Act.put, List.setIfInBounds_toArray, List.set_cons_zero, List.set_cons_succ]
            refine wpAnyH_take (i := 22) (oi := { dst := some 34, op := Op.slice 9 (Operand.tmp 33) (some (Operand.const (Value.int IntKind.i64 64))) none none, type := 9, pos := "edges.go:24", after := #[{ on := 21, ground := Ground.data }, { on := 10, ground := Ground.guard }], guard := some (10, true) }) (v := undef) rfl (by kernel_rfl) (by kernel_rfl) (by kernel_rfl) (fun _ _ _ h => h) (Or.inr ⟨by rfl, rfl⟩) (by assumption) ?_
            try simp only [Act.put, List.setIfInBounds_toArray, List.set_cons_zero, List.set_cons_succ]
            refine wpAnyH_take (i := 23) (oi := { dst := some 35, op := Op.buildSlice 29 4 #[(0, Operand.tmp 28), (1, Operand.tmp 32), (2, Operand.tmp 34), (3, Operand.const (Value.string { data := #[] }))], type := 29, pos := "edges.go:24", after := #[{ on := 16, ground := Ground.data }, { on := 20, ground := Ground.data }, { on := 22, ground := Ground.data }, { on := 10, ground := Ground.guard }], guard := some (10, true) }) (v := undef) rfl (by kernel_rfl) (by kernel_rfl) (by kernel_rfl) (fun _ _ _ h => h) (Or.inr ⟨by rfl, rfl⟩) (by assumption) ?_
            try simp only [Act.put, List.setIfInBounds_toArray, List.set_cons_zero, List.set_cons_succ]
            refine wpAnyH_take (i := 24) (oi := { dst := some 36, op := Op.call { callee := Callee.value (Operand.func 13), args := #[Operand.tmp 24, Operand.tmp 35], argTypes := #[3, 29] }, type := 4, pos := "edges.go:24", after := #[{ on := 12, ground := Ground.data }, { on := 23, ground := Ground.data }, { on := 10, ground := Ground.chain }, { on := 10, ground := Ground.guard }], guard := some (10, true) }) (v := undef) rfl (by kernel_rfl) (by kernel_rfl) (by kernel_rfl) (fun _ _ _ h => h) (Or.inr ⟨by rfl, rfl⟩) (by assumption) ?_
            try simp only [Act.put, List.setIfInBounds_toArray, List.set_cons_zero, List.set_cons_succ]
            refine wpAnyH_take (i := 25) (oi := { dst := some 37, op := Op.unOp UnOp.not 4 (Operand.tmp 36), type := 4, pos := "edges.go:24", after := #[{ on := 24, ground := Ground.data }, { on := 10, ground := Ground.guard }], guard := some (10, true) }) (v := undef) rfl (by kernel_rfl) (by kernel_rfl) (by kernel_rfl) (fun _ _ _ h => h) (Or.inr ⟨by rfl, rfl⟩) (by assumption) ?_
            try simp only [Act.put, List.setIfInBounds_toArray, List.set_cons_zero, List.set_cons_succ]
            refine wpAnyH_take (i := 26) (oi := { dst := some 38, op := Op.pick (Operand.tmp 22) (Operand.tmp 37) (Operand.const (Value.bool false)), type := 4, pos := "edges.go:24", after := #[{ on := 10, ground := Ground.data }, { on := 25, ground := Ground.data }, { on := 3, ground := Ground.guard }], guard := some (3, false) }) (v := ?_) rfl (by kernel_rfl) (by kernel_rfl) (by kernel_rfl) (fun _ _ _ h => h) (Or.inl ⟨by rfl, ?_⟩) (by assumption) ?_
            rotate_left
            · (intro w hSw; (try dsimp only at hSw); go_simp; try with_reducible rfl)
            try simp only [Act.put, List.setIfInBounds_toArray, List.set_cons_zero, List.set_cons_succ]
            refine wpAnyH_take (i := 27) (oi := { dst := some 39, op := Op.pick (Operand.tmp 15) (Operand.const (Value.bool true)) (Operand.tmp 38), type := 4, pos := "edges.go:24", after := #[{ on := 3, ground := Ground.data }, { on := 26, ground := Ground.data }], guard := none }) (v := ?_) rfl (by kernel_rfl) (by kernel_rfl) (by kernel_rfl) (fun _ _ _ h => h) (Or.inl ⟨by rfl, ?_⟩) (by assumption) ?_
            rotate_left
            · (intro w hSw; (try dsimp only at hSw); go_simp; try with_reducible rfl)
            try simp only [Act.put, List.setIfInBounds_toArray, List.set_cons_zero, List.set_cons_succ]
            refine wpAnyH_done (by kernel_rfl) ?_ _
            go_wp2_with fail
            go_meet
            exact ⟨rfl, Lib.hid (by assumption)⟩
        · have b1 : decide ((115 : Int) < (n : Int)) = false := by rw [decide_eq_false_iff_not]; omega
          have HSU : Hid (∀ wy, Kn w wy → Calls Tryz.prog 12 #[.int .i64 32, .string p] wy (fun e w' => e = .returned (.bool true) ∧ Below wy.heap.size wy w')) := Lib.hid (fun wy h => (sums_k (w := w) 32 p (by omega) HT.out h).mono fun _ _ hp => ⟨hp.1, hp.2.2⟩)
          have HKP : Hid (∀ wy w', Kn w wy → Below wy.heap.size wy w' → Kn w w') := Lib.hid (fun wy w' h hb => h.then hb)
          have HS0 : Hid (Kn w w1.drew) := Lib.hid hk0
          refine wp_region_held_drew (S := (fun wy => Kn w wy)) (by kernel_rfl) HS0.out (fun hHeld => ?_)
          refine wpAnyH_take (i := 0) (oi := { dst := some 12, op := Op.move (Operand.tmp 1), type := 9, pos := "edges.go:24", after := #[], guard := none }) (v := ?_) rfl (by kernel_rfl) (by kernel_rfl) (by kernel_rfl) (fun _ _ _ h => h) (Or.inl ⟨by rfl, ?_⟩) (by assumption) ?_
          rotate_left
          · (intro w hSw; (try dsimp only at hSw); go_simp; try with_reducible rfl)
          try simp only [Act.put, List.setIfInBounds_toArray, List.set_cons_zero, List.set_cons_succ]
          refine wpAnyH_ready (rs := [1]) (by kernel_rfl) (by simp) ?_
          refine AllReadyH.cons (o := { dst := some 13, op := Op.call { callee := Callee.value (Operand.func 12), args := #[Operand.const (Value.int IntKind.i64 32), Operand.tmp 12], argTypes := #[3, 9] }, type := 4, pos := "edges.go:24", after := #[{ on := 0, ground := Ground.data }], guard := none }) rfl (fun K hK => ?_) AllReadyH.nil
          rw [if_pos (by rfl)]
          go_simp
          refine (HSU.out _ (by assumption)).mono ?_
          rintro e wn ⟨rfl, hbn⟩
          have hSn := HKP.out _ _ (by assumption) hbn
          refine hK.out _ _ hSn (fun hHeld => ?_)
          clear hK hSn hbn
          try simp only [Act.put, List.setIfInBounds_toArray, List.set_cons_zero, List.set_cons_succ]
          refine wpAnyH_take (i := 2) (oi := { dst := some 14, op := Op.unOp UnOp.not 4 (Operand.tmp 13), type := 4, pos := "edges.go:24", after := #[{ on := 1, ground := Ground.data }], guard := none }) (v := ?_) rfl (by kernel_rfl) (by kernel_rfl) (by kernel_rfl) (fun _ _ _ h => h) (Or.inl ⟨by rfl, ?_⟩) (by assumption) ?_
          rotate_left
          · (intro w hSw; (try dsimp only at hSw); go_simp; try with_reducible rfl)
          try simp only [Act.put, List.setIfInBounds_toArray, List.set_cons_zero, List.set_cons_succ]
          refine wpAnyH_take (i := 3) (oi := { dst := some 15, op := Op.move (Operand.tmp 14), type := 4, pos := "edges.go:24", after := #[{ on := 2, ground := Ground.data }, { on := 1, ground := Ground.chain }], guard := none }) (v := ?_) rfl (by kernel_rfl) (by kernel_rfl) (by kernel_rfl) (fun _ _ _ h => h) (Or.inl ⟨by rfl, ?_⟩) (by assumption) ?_
          rotate_left
          · (intro w hSw; (try dsimp only at hSw); go_simp; try with_reducible rfl)
          try simp only [Act.put, List.setIfInBounds_toArray, List.set_cons_zero, List.set_cons_succ]
          refine wpAnyH_take (i := 4) (oi := { dst := some 16, op := Op.move (Operand.tmp 2), type := 3, pos := "edges.go:24", after := #[{ on := 3, ground := Ground.guard }], guard := some (3, false) }) (v := ?_) rfl (by kernel_rfl) (by kernel_rfl) (by kernel_rfl) (fun _ _ _ h => h) (Or.inl ⟨by rfl, ?_⟩) (by assumption) ?_
          rotate_left
          · (intro w hSw; (try dsimp only at hSw); go_simp; try with_reducible rfl)
          try simp only [Act.put, List.setIfInBounds_toArray, List.set_cons_zero, List.set_cons_succ]
          refine wpAnyH_take (i := 5) (oi := { dst := some 17, op := Op.binOp BinOp.gtr 3 (Operand.tmp 16) (Operand.const (Value.int IntKind.i64 115)) 3, type := 4, pos := "edges.go:24", after := #[{ on := 4, ground := Ground.data }, { on := 3, ground := Ground.guard }], guard := some (3, false) }) (v := ?_) rfl (by kernel_rfl) (by kernel_rfl) (by kernel_rfl) (fun _ _ _ h => h) (Or.inl ⟨by rfl, ?_⟩) (by assumption) ?_
          rotate_left
          · (intro w hSw; (try dsimp only at hSw); go_simp; try with_reducible rfl)
          try simp only [Act.put, List.setIfInBounds_toArray, List.set_cons_zero, List.set_cons_succ]
          refine wpAnyH_take (i := 6) (oi := { dst := some 18, op := Op.move (Operand.tmp 17), type := 4, pos := "edges.go:24", after := #[{ on := 5, ground := Ground.data }, { on := 3, ground := Ground.chain }, { on := 3, ground := Ground.guard }], guard := some (3, false) }) (v := ?_) rfl (by kernel_rfl) (by kernel_rfl) (by kernel_rfl) (fun _ _ _ h => h) (Or.inl ⟨by rfl, ?_⟩) (by assumption) ?_
          rotate_left
          · (intro w hSw; (try dsimp only at hSw); go_simp; try with_reducible rfl)
          try simp only [Act.put, List.setIfInBounds_toArray, List.set_cons_zero, List.set_cons_succ]
          refine wpAnyH_take (i := 7) (oi := { dst := some 19, op := Op.move (Operand.tmp 2), type := 3, pos := "edges.go:24", after := #[{ on := 6, ground := Ground.guard }], guard := some (6, true) }) (v := undef) rfl (by kernel_rfl) (by kernel_rfl) (by kernel_rfl) (fun _ _ _ h => h) (Or.inr ⟨by rfl, rfl⟩) (by assumption) ?_
          try simp only [Act.put, List.setIfInBounds_toArray, List.set_cons_zero, List.set_cons_succ]
          refine wpAnyH_take (i := 8) (oi := { dst := some 20, op := Op.binOp BinOp.lss 3 (Operand.tmp 19) (Operand.const (Value.int IntKind.i64 125)) 3, type := 4, pos := "edges.go:24", after := #[{ on := 7, ground := Ground.data }, { on := 6, ground := Ground.guard }], guard := some (6, true) }) (v := undef) rfl (by kernel_rfl) (by kernel_rfl) (by kernel_rfl) (fun _ _ _ h => h) (Or.inr ⟨by rfl, rfl⟩) (by assumption) ?_
          try simp only [Act.put, List.setIfInBounds_toArray, List.set_cons_zero, List.set_cons_succ]
          refine wpAnyH_take (i := 9) (oi := { dst := some 21, op := Op.pick (Operand.tmp 18) (Operand.tmp 20) (Operand.const (Value.bool false)), type := 4, pos := "edges.go:24", after := #[{ on := 6, ground := Ground.data }, { on := 8, ground := Ground.data }, { on := 3, ground := Ground.guard }], guard := some (3, false) }) (v := ?_) rfl (by kernel_rfl) (by kernel_rfl) (by kernel_rfl) (fun _ _ _ h => h) (Or.inl ⟨by rfl, ?_⟩) (by assumption) ?_
          rotate_left
          · (intro w hSw; (try dsimp only at hSw); go_simp; try with_reducible rfl)
          try simp only [Act.put, List.setIfInBounds_toArray, List.set_cons_zero, List.set_cons_succ]
          refine wpAnyH_take (i := 10) (oi := { dst := some 22, op := Op.move (Operand.tmp 21), type := 4, pos := "edges.go:24", after := #[{ on := 9, ground := Ground.data }, { on := 6, ground := Ground.chain }, { on := 3, ground := Ground.guard }], guard := some (3, false) }) (v := ?_) rfl (by kernel_rfl) (by kernel_rfl) (by kernel_rfl) (fun _ _ _ h => h) (Or.inl ⟨by rfl, ?_⟩) (by assumption) ?_
          rotate_left
          · (intro w hSw; (try dsimp only at hSw); go_simp; try with_reducible rfl)
          try simp only [Act.put, List.setIfInBounds_toArray, List.set_cons_zero, List.set_cons_succ]
          refine wpAnyH_take (i := 11) (oi := { dst := some 23, op := Op.move (Operand.tmp 2), type := 3, pos := "edges.go:24", after := #[{ on := 10, ground := Ground.guard }], guard := some (10, true) }) (v := undef) rfl (by kernel_rfl) (by kernel_rfl) (by kernel_rfl) (fun _ _ _ h => h) (Or.inr ⟨by rfl, rfl⟩) (by assumption) ?_
          try simp only [Act.put, List.setIfInBounds_toArray, List.set_cons_zero, List.set_cons_succ]
          refine wpAnyH_take (i := 12) (oi := { dst := some 24, op := Op.binOp BinOp.rem 3 (Operand.tmp 23) (Operand.const (Value.int IntKind.i64 34)) 3, type := 3, pos := "edges.go:24", after := #[{ on := 11, ground := Ground.data }, { on := 10, ground := Ground.guard }], guard := some (10, true) }) (v := undef) rfl (by kernel_rfl) (by kernel_rfl) (by kernel_rfl) (fun _ _ _ h => h) (Or.inr ⟨by rfl, rfl⟩) (by assumption) ?_
          try simp only [Act.put, List.setIfInBounds_toArray, List.set_cons_zero, List.set_cons_succ]
          refine wpAnyH_take (i := 13) (oi := { dst := some 25, op := Op.move (Operand.tmp 1), type := 9, pos := "edges.go:24", after := #[{ on := 10, ground := Ground.guard }], guard := some (10, true) }) (v := undef) rfl (by kernel_rfl) (by kernel_rfl) (by kernel_rfl) (fun _ _ _ h => h) (Or.inr ⟨by rfl, rfl⟩) (by assumption) ?_
          try simp only [Act.put, List.setIfInBounds_toArray, List.set_cons_zero, List.set_cons_succ]
          refine wpAnyH_take (i := 14) (oi := { dst := some 26, op := Op.move (Operand.tmp 2), type := 3, pos := "edges.go:24", after := #[{ on := 10, ground := Ground.guard }], guard := some (10, true) }) (v := undef) rfl (by kernel_rfl) (by kernel_rfl) (by kernel_rfl) (fun _ _ _ h => h) (Or.inr ⟨by rfl, rfl⟩) (by assumption) ?_
          try simp only [Act.put, List.setIfInBounds_toArray, List.set_cons_zero, List.set_cons_succ]
          refine wpAnyH_take (i := 15) (oi := { dst := some 27, op := Op.binOp BinOp.rem 3 (Operand.tmp 26) (Operand.const (Value.int IntKind.i64 64)) 3, type := 3, pos := "edges.go:24", after := #[{ on := 14, ground := Ground.data }, { on := 10, ground := Ground.guard }], guard := some (10, true) }) (v := undef) rfl (by kernel_rfl) (by kernel_rfl) (by kernel_rfl) (fun _ _ _ h => h) (Or.inr ⟨by rfl, rfl⟩) (by assumption) ?_
          try simp only [Act.put, List.setIfInBounds_toArray, List.set_cons_zero, List.set_cons_succ]
          refine wpAnyH_take (i := 16) (oi := { dst := some 28, op := Op.slice 9 (Operand.tmp 25) none (some (Operand.tmp 27)) none, type := 9, pos := "edges.go:24", after := #[{ on := 13, ground := Ground.data }, { on := 15, ground := Ground.data }, { on := 10, ground := Ground.guard }], guard := some (10, true) }) (v := undef) rfl (by kernel_rfl) (by kernel_rfl) (by kernel_rfl) (fun _ _ _ h => h) (Or.inr ⟨by rfl, rfl⟩) (by assumption) ?_
          try simp only [Act.put, List.setIfInBounds_toArray, List.set_cons_zero, List.set_cons_succ]
          refine wpAnyH_take (i := 17) (oi := { dst := some 29, op := Op.move (Operand.tmp 1), type := 9, pos := "edges.go:24", after := #[{ on := 10, ground := Ground.guard }], guard := some (10, true) }) (v := undef) rfl (by kernel_rfl) (by kernel_rfl) (by kernel_rfl) (fun _ _ _ h => h) (Or.inr ⟨by rfl, rfl⟩) (by assumption) ?_
          try simp only [Act.put, List.setIfInBounds_toArray, List.set_cons_zero, List.set_cons_succ]
          refine wpAnyH_take (i := 18) (oi := { dst := some 30, op := Op.move (Operand.tmp 2), type := 3, pos := "edges.go:24", after := #[{ on := 10, ground := Ground.guard }], guard := some (10, true) }) (v := undef) rfl (by kernel_rfl) (by kernel_rfl) (by kernel_rfl) (fun _ _ _ h => h) (Or.inr ⟨by rfl, rfl⟩) (by assumption) ?_
          try simp only [Act.put, List.setIfInBounds_toArray, List.set_cons_zero, List.set_cons_succ]
          refine wpAnyH_take (i := 19) (oi := { dst := some 31, op := Op.binOp BinOp.rem 3 (Operand.tmp 30) (Operand.const (Value.int IntKind.i64 64)) 3, type := 3, pos := "edges.go:24", after := #[{ on := 18, ground := Ground.data }, { on := 10, ground := Ground.guard }], guard := some (10, true) }) (v := undef) rfl (by kernel_rfl) (by kernel_rfl) (by kernel_rfl) (fun _ _ _ h => h) (Or.inr ⟨by rfl, rfl⟩) (by assumption) ?_
          try simp only [Act.put, List.setIfInBounds_toArray, List.set_cons_zero, List.set_cons_succ]
          refine wpAnyH_take (i := 20) (oi := { dst := some 32, op := Op.slice 9 (Operand.tmp 29) (some (Operand.tmp 31)) (some (Operand.const (Value.int IntKind.i64 64))) none, type := 9, pos := "edges.go:24", after := #[{ on := 17, ground := Ground.data }, { on := 19, ground := Ground.data }, { on := 10, ground := Ground.guard }], guard := some (10, true) }) (v := undef) rfl (by kernel_rfl) (by kernel_rfl) (by kernel_rfl) (fun _ _ _ h => h) (Or.inr ⟨by rfl, rfl⟩) (by assumption) ?_
          try simp only [Act.put, List.setIfInBounds_toArray, List.set_cons_zero, List.set_cons_succ]
          refine wpAnyH_take (i := 21) (oi := { dst := some 33, op := Op.move (Operand.tmp 1), type := 9, pos := "edges.go:24", after := #[{ on := 10, ground := Ground.guard }], guard := some (10, true) }) (v := undef) rfl (by kernel_rfl) (by kernel_rfl) (by kernel_rfl) (fun _ _ _ h => h) (Or.inr ⟨by rfl, rfl⟩) (by assumption) ?_
          try simp only [Act.put, List.setIfInBounds_toArray, List.set_cons_zero, List.set_cons_succ]
          refine wpAnyH_take (i := 22) (oi := { dst := some 34, op := Op.slice 9 (Operand.tmp 33) (some (Operand.const (Value.int IntKind.i64 64))) none none, type := 9, pos := "edges.go:24", after := #[{ on := 21, ground := Ground.data }, { on := 10, ground := Ground.guard }], guard := some (10, true) }) (v := undef) rfl (by kernel_rfl) (by kernel_rfl) (by kernel_rfl) (fun _ _ _ h => h) (Or.inr ⟨by rfl, rfl⟩) (by assumption) ?_
          try simp only [Act.put, List.setIfInBounds_toArray, List.set_cons_zero, List.set_cons_succ]
          refine wpAnyH_take (i := 23) (oi := { dst := some 35, op := Op.buildSlice 29 4 #[(0, Operand.tmp 28), (1, Operand.tmp 32), (2, Operand.tmp 34), (3, Operand.const (Value.string { data := #[] }))], type := 29, pos := "edges.go:24", after := #[{ on := 16, ground := Ground.data }, { on := 20, ground := Ground.data }, { on := 22, ground := Ground.data }, { on := 10, ground := Ground.guard }], guard := some (10, true) }) (v := undef) rfl (by kernel_rfl) (by kernel_rfl) (by kernel_rfl) (fun _ _ _ h => h) (Or.inr ⟨by rfl, rfl⟩) (by assumption) ?_
          try simp only [Act.put, List.setIfInBounds_toArray, List.set_cons_zero, List.set_cons_succ]
          refine wpAnyH_take (i := 24) (oi := { dst := some 36, op := Op.call { callee := Callee.value (Operand.func 13), args := #[Operand.tmp 24, Operand.tmp 35], argTypes := #[3, 29] }, type := 4, pos := "edges.go:24", after := #[{ on := 12, ground := Ground.data }, { on := 23, ground := Ground.data }, { on := 10, ground := Ground.chain }, { on := 10, ground := Ground.guard }], guard := some (10, true) }) (v := undef) rfl (by kernel_rfl) (by kernel_rfl) (by kernel_rfl) (fun _ _ _ h => h) (Or.inr ⟨by rfl, rfl⟩) (by assumption) ?_
          try simp only [Act.put, List.setIfInBounds_toArray, List.set_cons_zero, List.set_cons_succ]
          refine wpAnyH_take (i := 25) (oi := { dst := some 37, op := Op.unOp UnOp.not 4 (Operand.tmp 36), type := 4, pos := "edges.go:24", after := #[{ on := 24, ground := Ground.data }, { on := 10, ground := Ground.guard }], guard := some (10, true) }) (v := undef) rfl (by kernel_rfl) (by kernel_rfl) (by kernel_rfl) (fun _ _ _ h => h) (Or.inr ⟨by rfl, rfl⟩) (by assumption) ?_
          try simp only [Act.put, List.setIfInBounds_toArray, List.set_cons_zero, List.set_cons_succ]
          refine wpAnyH_take (i := 26) (oi := { dst := some 38, op := Op.pick (Operand.tmp 22) (Operand.tmp 37) (Operand.const (Value.bool false)), type := 4, pos := "edges.go:24", after := #[{ on := 10, ground := Ground.data }, { on := 25, ground := Ground.data }, { on := 3, ground := Ground.guard }], guard := some (3, false) }) (v := ?_) rfl (by kernel_rfl) (by kernel_rfl) (by kernel_rfl) (fun _ _ _ h => h) (Or.inl ⟨by rfl, ?_⟩) (by assumption) ?_
          rotate_left
          · (intro w hSw; (try dsimp only at hSw); go_simp; try with_reducible rfl)
          try simp only [Act.put, List.setIfInBounds_toArray, List.set_cons_zero, List.set_cons_succ]
          refine wpAnyH_take (i := 27) (oi := { dst := some 39, op := Op.pick (Operand.tmp 15) (Operand.const (Value.bool true)) (Operand.tmp 38), type := 4, pos := "edges.go:24", after := #[{ on := 3, ground := Ground.data }, { on := 26, ground := Ground.data }], guard := none }) (v := ?_) rfl (by kernel_rfl) (by kernel_rfl) (by kernel_rfl) (fun _ _ _ h => h) (Or.inl ⟨by rfl, ?_⟩) (by assumption) ?_
          rotate_left
          · (intro w hSw; (try dsimp only at hSw); go_simp; try with_reducible rfl)
          try simp only [Act.put, List.setIfInBounds_toArray, List.set_cons_zero, List.set_cons_succ]
          refine wpAnyH_done (by kernel_rfl) ?_ _
          go_wp2_with fail
          go_meet
          exact ⟨rfl, Lib.hid (by assumption)⟩
      case rest =>
        obtain ⟨rfl, HK2⟩ := hcut
        obtain ⟨w2, hw2⟩ : ∃ w2 : World, w2 = wc := ⟨_, rfl⟩
        subst hw2
        obtain ⟨m, hm, hm2⟩ : ∃ m : Nat, ((n : Int) * 7) % 256 = (m : Int) ∧ m < 256 := ⟨n * 7 % 256, by omega, by omega⟩
        have hw7 : IntKind.u8.wrap ((n : Int) * 7) = (m : Int) := by rw [IntKind.wrap_u8]; exact hm
        clear hm
        have hcv := run_convert_reads (P := Tryz.prog) Tryz.underlying30 Tryz.underlying5 Tryz.underlying9 1 (l := [UInt8.ofNat m]) (by
          have e : Lib.byteCells [UInt8.ofNat m] = [.int .u8 m] := by simp [Lib.byteCells]; omega
          rw [e]
          exact Reads.of_block (n := 1) (size := 1) (heap_alloc_new w2 (.cells #[.int .u8 m] 5)) rfl)
        go_wp2_with fail
        go_roundw
        case rel => exact ⟨n + 1, _, by omega, rfl, by go_num, Lib.hid (by rw [ByteArray.size_append, HP.out]; rfl), Lib.hid (HK2.out.alloc _)⟩
        case measure => simp [intOf]; omega
    · have hl3 : decide ((n : Int) ≤ 300) = false := by rw [decide_eq_false_iff_not]; omega
      have HS : Hid (p.size = 301) := Lib.hid (by have := HP.out; omega)
      obtain ⟨sl, rfl⟩ := bytes_eta p
      have hsl : (⟨sl.toArray⟩ : ByteArray).size ≤ 301 := by have := HS.out; omega
      go_wp2_with fail
      go_loopw [3] (fun i wx => ∃ z : Int, -2 ≤ z ∧ z ≤ 36 ∧ i = .int .i64 z ∧ Hid (Kn w wx)) (fun i _ => (36 - intOf i).toNat)
      case atStart => exact ⟨-2, by omega, by omega, rfl, HK⟩
      case round =>
        clear HK
        obtain ⟨z, hz1, hz2, rfl, HK⟩ := hrel
        by_cases hz : z ≤ 35
        · have hk0 := HK.out
          have hb35 : decide (z ≤ 35) = true := by rw [decide_eq_true_iff]; exact hz
          go_wp2_with fail
          refine (sums_k (w := w) _ _ (by decide) HT.out hk0).mono ?_
          rintro e w3 ⟨rfl, h3, _⟩
          go_wp2_with fail
          refine (widths_k (w := w) _ _ _ (by omega) HT.out h3).mono ?_
          rintro e w4 ⟨rfl, h4, _⟩
          go_wp2_with fail
          refine (widths_k (w := w) _ _ _ (by decide) HT.out h4).mono ?_
          rintro e w5 ⟨rfl, h5, _⟩
          go_wp2_with fail
          refine (hashes_k (w := w) _ _ _ 4 _ [([97], true, false), (sl, false, true), (sl, true, false), ([98], true, true)] (Reads.of_block (heap_alloc_new w5 _) rfl) (by omega) (by
            intro q hq
            rw [ba_len] at hsl
            simp only [List.mem_cons, List.not_mem_nil, or_false] at hq
            rcases hq with rfl | rfl | rfl | rfl
            · simp
            · simp only; omega
            · simp only; omega
            · simp) HT.out (h5.alloc _)).mono ?_
          rintro e w6 ⟨rfl, h6, _⟩
          go_wp2_with fail
          go_roundw
          case rel => exact ⟨z + 1, by omega, by omega, rfl, Lib.hid h6⟩
          case measure => simp [intOf]; omega
        · have hb35 : decide (z ≤ 35) = false := by rw [decide_eq_false_iff_not]; exact hz
          go_wp2_with fail
          go_loopw [4] (fun s wx => ∃ q : ByteArray, s = .string q ∧ 301 ≤ q.size ∧ q.size ≤ 140000 ∧ wr = wx) (fun s _ => 70000 - (match s with | .string q => q.size | _ => 0))
          case atStart => exact ⟨_, rfl, by have := HS.out; omega, by omega, rfl⟩
          case round =>
            obtain ⟨q, rfl, h8, hq, rfl⟩ := hrel
            by_cases hlt : q.size < 70000
            · have hi : decide ((q.size : Int) < 70000) = true := by rw [decide_eq_true_iff]; omega
              go_wp2_with fail
              go_roundw
              case rel => exact ⟨q ++ q, rfl, by rw [ByteArray.size_append]; omega, by rw [ByteArray.size_append]; omega, trivial⟩
              case measure => simp [ByteArray.size_append]; omega
            · have hi : decide ((q.size : Int) < 70000) = false := by rw [decide_eq_false_iff_not]; omega
              go_upto_region 16 with fail
              clear hi
              go_cut [86, 87, 88] from 86 to 88 (fun s n i wx => ∃ g : Nat, s = .slice (some ⟨g, 0, none⟩) 7 7 ∧ n = .int .i64 7 ∧ i = .int .i64 0 ∧ Hid (Reads wx wx.heap.size 1 (some ⟨g, 0, none⟩) 7 [.int .i64 8190, .int .i64 8191, .int .i64 8192, .int .i64 8193, .int .i64 65535, .int .i64 65536, .int .i64 70000]) ∧ Hid (Kn w wx))
              case first =>
                go_wp2_with fail
                go_meet
                exact ⟨_, rfl, rfl, rfl, Lib.hid (Reads.of_block (heap_alloc_new _ _) rfl), Lib.hid (HK.out.alloc _)⟩
              case rest =>
                obtain ⟨g, rfl, rfl, rfl, HR, HKC⟩ := hcut
                obtain ⟨wb, hwb⟩ : ∃ wb : World, wb = wc := ⟨_, rfl⟩
                subst hwb
                have HTB := Lib.hid (HKC.out.tabs HT.out)
                go_wp2_with fail
                go_loopw [88] (fun i wx => ∃ k : Nat, k ≤ 7 ∧ i = .int .i64 k ∧ Hid (Kn wb wx)) (fun i _ => 7 - (intOf i).toNat)
                case atStart => exact ⟨0, by omega, rfl, Lib.hid (Kn.refl _)⟩
                case round =>
                  obtain ⟨k, hk, rfl, HK7⟩ := hrel
                  by_cases hk7 : k < 7
                  · obtain ⟨ad, u, hA, hb, hu, c1⟩ := (HR.out.below HK7.out).at_ hk7
                    obtain rfl : (⟨g, 0, none⟩ : Addr) = ad := by injection hA
                    have hae : (⟨g, 0, none⟩ : Addr).add k = ⟨g, k, none⟩ := by unfold Addr.add; split <;> simp_all
                    rw [hae] at c1
                    obtain ⟨m, rfl, hm⟩ : ∃ m : Nat, u = .int .i64 m ∧ m ≤ 70000 := by
                      rcases k with _ | _ | _ | _ | _ | _ | _ | k
                      · exact ⟨8190, by simpa using hu.symm, by decide⟩
                      · exact ⟨8191, by simpa using hu.symm, by decide⟩
                      · exact ⟨8192, by simpa using hu.symm, by decide⟩
                      · exact ⟨8193, by simpa using hu.symm, by decide⟩
                      · exact ⟨65535, by simpa using hu.symm, by decide⟩
                      · exact ⟨65536, by simpa using hu.symm, by decide⟩
                      · exact ⟨70000, by simpa using hu.symm, by decide⟩
                      · omega
                    clear hA hb hae hu
                    have hm1 : (0 : Int) ≤ (m : Int) := by omega
                    have hm2 : (m : Int) ≤ (q.size : Int) := by omega
                    go_wp2_with fail
                    refine (sums_k (w := wb) _ _ (by rw [ByteArray.size_extract]; omega) HTB.out HK7.out).mono ?_
                    rintro e w3 ⟨rfl, h3, _⟩
                    go_wp2_with fail
                    go_roundw
                    case rel => exact ⟨k + 1, by omega, by go_num, Lib.hid h3⟩
                    case measure => simp [intOf]; omega
                  · go_wp2_with fail
                    refine (sums_k (w := wb) _ _ (by decide) HTB.out HK7.out).mono ?_
                    rintro e w3 ⟨rfl, h3, _⟩
                    go_wp2_with fail
                    refine (sums_k (w := wb) _ _ (by decide) HTB.out h3).mono ?_
                    rintro e w4 ⟨rfl, h4, _⟩
                    go_wp2_with fail
                    refine (widths_k (w := wb) _ _ _ (by decide) HTB.out h4).mono ?_
                    rintro e w5 ⟨rfl, h5, _⟩
                    go_wp2_with fail
                    go_ret
                    exact ⟨rfl, HKC.out.then h5, HKC.out.then h5⟩
-- >
end DK
end Go.Proofs.YtgjelinnpcekmaaGreatDoor
namespace Go.Proofs.YtgjelinnpcekmaaGreatDoor
open Go.RowKit Err Plain Sha
namespace DK

def ldA : List Value := [.string ⟨#[50, 58, 97, 98, 48, 58, 51, 58, 51, 58, 120]⟩, .string ⟨#[48, 58]⟩, .string ⟨#[49, 58, 97]⟩, .string ⟨#[49, 48, 58, 97, 98, 99, 100, 101, 102, 103, 104, 105, 106, 49, 58, 58]⟩]
theorem ldA_row : SRow 20 ldA := by
  intro x hx
  simp only [ldA, List.mem_cons, List.not_mem_nil, or_false] at hx
  rcases hx with rfl | rfl | rfl | rfl <;> exact ⟨_, rfl, by decide⟩
theorem two_row (w : World) (t : TypeId) (a b : ByteArray) {m : Nat} (ha : a.size ≤ m) (hb : b.size ≤ m) : ∃ l, Reads (w.alloc (.cells #[.string a, .string b] t)) (w.alloc (.cells #[.string a, .string b] t)).heap.size 1 (some ⟨w.heap.size, 0, none⟩) 2 (tx l) ∧ total l ≤ m * 2 ∧ l.length = 2 :=
  row_new w #[.string a, .string b] t (by
    intro x hx
    simp only [List.mem_cons, List.not_mem_nil, or_false] at hx
    rcases hx with rfl | rfl
    · exact ⟨_, rfl, ha⟩
    · exact ⟨_, rfl, hb⟩)
theorem three_row (w : World) (t : TypeId) (a b c : ByteArray) {m : Nat} (ha : a.size ≤ m) (hb : b.size ≤ m) (hc : c.size ≤ m) : ∃ l, Reads (w.alloc (.cells #[.string a, .string b, .string c] t)) (w.alloc (.cells #[.string a, .string b, .string c] t)).heap.size 1 (some ⟨w.heap.size, 0, none⟩) 3 (tx l) ∧ total l ≤ m * 3 ∧ l.length = 3 :=
  row_new w #[.string a, .string b, .string c] t (by
    intro x hx
    simp only [List.mem_cons, List.not_mem_nil, or_false] at hx
    rcases hx with rfl | rfl | rfl
    · exact ⟨_, rfl, ha⟩
    · exact ⟨_, rfl, hb⟩
    · exact ⟨_, rfl, hc⟩)
-- <
set_option maxHeartbeats 8000000 in
set_option maxRecDepth 100000 in
theorem laid_any (w : World) (ht : Tabs w) : Calls Tryz.prog 7 #[] w (TruePost w w) := by
  have HT := Lib.hid ht
  clear ht
  go_enter Tryz.func7, Tryz.ntmps7
  go_upto_region 1 with fail
  go_cut [10, 11, 12] from 10 to 12 (fun s n i wx => s = .slice (some ⟨w.heap.size, 0, none⟩) 4 4 ∧ n = .int .i64 4 ∧ i = .int .i64 0 ∧ Hid (Reads wx wx.heap.size 1 (some ⟨w.heap.size, 0, none⟩) 4 ldA) ∧ Hid (Kn w wx))
  case first =>
    go_wp2_with fail
    go_meet
    exact ⟨rfl, rfl, rfl, Lib.hid (Reads.of_block (heap_alloc_new w _) rfl), Lib.hid ((Kn.refl w).alloc _)⟩
  case rest =>
    obtain ⟨rfl, rfl, rfl, HR, HKC⟩ := hcut
    obtain ⟨wb, hwb⟩ : ∃ wb : World, wb = wc := ⟨_, rfl⟩
    subst hwb
    have HT := Lib.hid (HKC.out.tabs HT.out)
    obtain ⟨H0, hH0⟩ : ∃ H0, H0 = w.heap.size := ⟨_, rfl⟩
    rw [← hH0] at HR ⊢
    clear hH0
    go_wp2_with fail
    go_loopw [12] (fun i wx => ∃ k : Nat, k ≤ 4 ∧ i = .int .i64 k ∧ Hid (Kn wb wx)) (fun i _ => 4 - (intOf i).toNat)
    case atStart => exact ⟨0, by omega, rfl, Lib.hid (Kn.refl _)⟩
    case round =>
      obtain ⟨k, hk, rfl, HK⟩ := hrel
      obtain ⟨w1, hw1⟩ : ∃ w1 : World, w1 = wr := ⟨_, rfl⟩
      subst hw1
      by_cases hlt : k < 4
      · obtain ⟨ad, s, hA, hb, hs, c1⟩ := ldA_row.at_ (HR.out.below HK.out) hlt
        obtain rfl : (⟨H0, 0, none⟩ : Addr) = ad := by injection hA
        have hae : (⟨H0, 0, none⟩ : Addr).add k = ⟨H0, k, none⟩ := by unfold Addr.add; split <;> simp_all
        rw [hae] at c1
        clear hA hb hae
        have hd3 : decide ((k : Int) < 4) = true := by rw [decide_eq_true_iff]; omega
        go_wp2_with fail
        clear c1
        go_loopw [3] (fun i wx => ∃ a : Nat, a ≤ s.size + 1 ∧ i = .int .i64 a ∧ Hid (Kn wb wx)) (fun i _ => s.size + 1 - (intOf i).toNat)
        case atStart => exact ⟨0, by omega, rfl, HK⟩
        case round =>
          clear HK
          obtain ⟨a, ha, rfl, HK⟩ := hrel
          obtain ⟨w2, hw2⟩ : ∃ w2 : World, w2 = wr := ⟨_, rfl⟩
          subst hw2
          by_cases hle : a ≤ s.size
          · have hi1 : (0 : Int) ≤ (a : Int) := by omega
            have hi2 : (a : Int) ≤ (s.size : Int) := by omega
            go_wp2_with fail
            go_loopw [4] (fun i wx => ∃ c : Nat, c ≤ 256 ∧ i = .int .i64 c ∧ Hid (Kn wb wx)) (fun i _ => 256 - (intOf i).toNat)
            case atStart => exact ⟨0, by omega, rfl, HK⟩
            case round =>
              clear HK
              obtain ⟨c, hc, rfl, HK⟩ := hrel
              obtain ⟨w3, hw3⟩ : ∃ w3 : World, w3 = wr := ⟨_, rfl⟩
              subst hw3
              by_cases hcc : c < 256
              · have hw0 : IntKind.u8.wrap (c : Int) = (c : Int) := IntWalk.u8_in _ (by omega)
                have hdc : decide ((c : Int) < 256) = true := by rw [decide_eq_true_iff]; omega
                go_upto_region 10 with fail
                go_cut [5] (fun t wx => ∃ b : ByteArray, t = .string b ∧ b.size ≤ 1 ∧ Hid (Kn wb wx))
                case first =>
                  have hcv := run_convert_reads (P := Tryz.prog) Tryz.underlying30 Tryz.underlying5 Tryz.underlying9 1 (l := [UInt8.ofNat c]) (by
                    have e : Lib.byteCells [UInt8.ofNat c] = [.int .u8 c] := by simp [Lib.byteCells]; omega
                    rw [e]
                    exact Reads.of_block (n := 1) (size := 1) (heap_alloc_new w3 (.cells #[.int .u8 c] 5)) rfl)
                  go_wp2_with fail
                  go_meet
                  exact ⟨_, rfl, Nat.le_refl 1, Lib.hid (HK.out.alloc _)⟩
                case rest =>
                  clear HK
                  obtain ⟨b, rfl, hbs, HK⟩ := hcut
                  have hk0 := HK.out.drew
                  have hl1 : (9223372036854775807 < a + b.size) = False := eq_false (by omega)
                  have hl2 : (9223372036854775807 < a + b.size + (s.size - a)) = False := eq_false (by omega)
                  have hl3 : (9223372036854775807 < a + b.size + (s.size - (a + 1))) = False := eq_false (by omega)
                  have hwa : IntKind.i64.wrap ((a : Int) + 1) = (a : Int) + 1 := IntWalk.i64_in _ (by omega)
                  have e1 : (s.extract 0 a).size = a := by rw [ByteArray.size_extract]; omega
                  have e2 : (s.extract a s.size).size = s.size - a := by rw [ByteArray.size_extract]; omega
                  go_upto_region 11 with fail
                  by_cases hal : a < s.size
                  · have b1 : decide ((a : Int) < (s.size : Int)) = true := by rw [decide_eq_true_iff]; omega
                    have hi3 : (0 : Int) ≤ (a : Int) + 1 := by omega
                    have hi4 : (a : Int) + 1 ≤ (s.size : Int) := by omega
                    have hi5 : ((a : Int) + 1).toNat = a + 1 := by omega
                    have e3 : (s.extract (a + 1) s.size).size = s.size - (a + 1) := by rw [ByteArray.size_extract]; omega
                    go_region_held3 (fun wy => Kn wb wy) ((first | assumption | (intros; assumption))) ((first | (go_at_call 18; refine (cuts_k (w := wb) _ (by rw [ByteArray.size_append, ByteArray.size_append]; omega) HT.out (by assumption)).mono ?_; rintro e wv ⟨rfl, hkn, hkx⟩)))
                    go_wp2_with fail
                    go_roundw
                    case rel => exact ⟨c + 1, by omega, by go_num, Lib.hid (by assumption)⟩
                    case measure => simp [intOf]; omega
                  · have b1 : decide ((a : Int) < (s.size : Int)) = false := by rw [decide_eq_false_iff_not]; omega
                    have HCU : Hid (∀ wy, Kn wb wy → Calls Tryz.prog 18 #[.string (s.extract 0 a ++ b ++ s.extract a s.size)] wy (fun e w' => e = .returned (.bool true) ∧ Below wy.heap.size wy w')) := Lib.hid (fun wy h => (cuts_k (w := wb) _ (by rw [ByteArray.size_append, ByteArray.size_append]; omega) HT.out h).mono fun _ _ hp => ⟨hp.1, hp.2.2⟩)
                    have HKP : Hid (∀ wy w', Kn wb wy → Below wy.heap.size wy w' → Kn wb w') := Lib.hid (fun wy w' h hb => h.then hb)
                    have HS0 : Hid (Kn wb wc.drew) := Lib.hid hk0
                    refine wp_region_held_drew (S := (fun wy => Kn wb wy)) (by kernel_rfl) HS0.out (fun hHeld => ?_)
                    refine wpAnyH_take (i := 0) (oi := { dst := some 30, op := Op.move (Operand.tmp 2), type := 9, pos := "edges.go:80", after := #[], guard := none }) (v := ?_) rfl (by kernel_rfl) (by kernel_rfl) (by kernel_rfl) (fun _ _ _ h => h) (Or.inl ⟨by rfl, ?_⟩) (by assumption) ?_
                    rotate_left
                    · (intro w hSw; (try dsimp only at hSw); go_simp; try with_reducible rfl)
                    try simp only [Act.put, List.setIfInBounds_toArray, List.set_cons_zero, List.set_cons_succ]
                    refine wpAnyH_take (i := 1) (oi := { dst := some 31, op := Op.move (Operand.tmp 3), type := 3, pos := "edges.go:80", after := #[], guard := none }) (v := ?_) rfl (by kernel_rfl) (by kernel_rfl) (by kernel_rfl) (fun _ _ _ h => h) (Or.inl ⟨by rfl, ?_⟩) (by assumption) ?_
                    rotate_left
                    · (intro w hSw; (try dsimp only at hSw); go_simp; try with_reducible rfl)
                    try simp only [Act.put, List.setIfInBounds_toArray, List.set_cons_zero, List.set_cons_succ]
                    refine wpAnyH_take (i := 2) (oi := { dst := some 32, op := Op.slice 9 (Operand.tmp 30) none (some (Operand.tmp 31)) none, type := 9, pos := "edges.go:80", after := #[{ on := 0, ground := Ground.data }, { on := 1, ground := Ground.data }], guard := none }) (v := ?_) rfl (by kernel_rfl) (by kernel_rfl) (by kernel_rfl) (fun _ _ _ h => h) (Or.inl ⟨by rfl, ?_⟩) (by assumption) ?_
                    rotate_left
                    · (intro w hSw; (try dsimp only at hSw); go_simp; try with_reducible rfl)
                    try simp only [Act.put, List.setIfInBounds_toArray, List.set_cons_zero, List.set_cons_succ]
                    refine wpAnyH_take (i := 3) (oi := { dst := some 33, op := Op.move (Operand.tmp 5), type := 9, pos := "edges.go:80", after := #[], guard := none }) (v := ?_) rfl (by kernel_rfl) (by kernel_rfl) (by kernel_rfl) (fun _ _ _ h => h) (Or.inl ⟨by rfl, ?_⟩) (by assumption) ?_
                    rotate_left
                    · (intro w hSw; (try dsimp only at hSw); go_simp; try with_reducible rfl)
                    try simp only [Act.put, List.setIfInBounds_toArray, List.set_cons_zero, List.set_cons_succ]
                    refine wpAnyH_take (i := 4) (oi := { dst := some 34, op := Op.binOp BinOp.add 9 (Operand.tmp 32) (Operand.tmp 33) 9, type := 9, pos := "edges.go:80", after := #[{ on := 2, ground := Ground.data }, { on := 3, ground := Ground.data }], guard := none }) (v := ?_) rfl (by kernel_rfl) (by kernel_rfl) (by kernel_rfl) (fun _ _ _ h => h) (Or.inl ⟨by rfl, ?_⟩) (by assumption) ?_
                    rotate_left
                    · (intro w hSw; (try dsimp only at hSw); go_simp; try with_reducible rfl)
                    try simp only [Act.put, List.setIfInBounds_toArray, List.set_cons_zero, List.set_cons_succ]
                    refine wpAnyH_take (i := 5) (oi := { dst := some 35, op := Op.move (Operand.tmp 2), type := 9, pos := "edges.go:80", after := #[], guard := none }) (v := ?_) rfl (by kernel_rfl) (by kernel_rfl) (by kernel_rfl) (fun _ _ _ h => h) (Or.inl ⟨by rfl, ?_⟩) (by assumption) ?_
                    rotate_left
                    · (intro w hSw; (try dsimp only at hSw); go_simp; try with_reducible rfl)
                    try simp only [Act.put, List.setIfInBounds_toArray, List.set_cons_zero, List.set_cons_succ]
                    refine wpAnyH_take (i := 6) (oi := { dst := some 36, op := Op.move (Operand.tmp 3), type := 3, pos := "edges.go:80", after := #[], guard := none }) (v := ?_) rfl (by kernel_rfl) (by kernel_rfl) (by kernel_rfl) (fun _ _ _ h => h) (Or.inl ⟨by rfl, ?_⟩) (by assumption) ?_
                    rotate_left
                    · (intro w hSw; (try dsimp only at hSw); go_simp; try with_reducible rfl)
                    try simp only [Act.put, List.setIfInBounds_toArray, List.set_cons_zero, List.set_cons_succ]
                    refine wpAnyH_take (i := 7) (oi := { dst := some 37, op := Op.slice 9 (Operand.tmp 35) (some (Operand.tmp 36)) none none, type := 9, pos := "edges.go:80", after := #[{ on := 5, ground := Ground.data }, { on := 6, ground := Ground.data }], guard := none }) (v := ?_) rfl (by kernel_rfl) (by kernel_rfl) (by kernel_rfl) (fun _ _ _ h => h) (Or.inl ⟨by rfl, ?_⟩) (by assumption) ?_
                    rotate_left
                    · (intro w hSw; (try dsimp only at hSw); go_simp; try with_reducible rfl)
                    try simp only [Act.put, List.setIfInBounds_toArray, List.set_cons_zero, List.set_cons_succ]
                    refine wpAnyH_take (i := 8) (oi := { dst := some 38, op := Op.binOp BinOp.add 9 (Operand.tmp 34) (Operand.tmp 37) 9, type := 9, pos := "edges.go:80", after := #[{ on := 4, ground := Ground.data }, { on := 7, ground := Ground.data }], guard := none }) (v := ?_) rfl (by kernel_rfl) (by kernel_rfl) (by kernel_rfl) (fun _ _ _ h => h) (Or.inl ⟨by rfl, ?_⟩) (by assumption) ?_
                    rotate_left
                    · (intro w hSw; (try dsimp only at hSw); go_simp; try with_reducible rfl)
                    try simp only [Act.put, List.setIfInBounds_toArray, List.set_cons_zero, List.set_cons_succ]
                    refine wpAnyH_ready (rs := [9]) (by kernel_rfl) (by simp) ?_
                    refine AllReadyH.cons (o := { dst := some 39, op := Op.call { callee := Callee.value (Operand.func 18), args := #[Operand.tmp 38], argTypes := #[9] }, type := 4, pos := "edges.go:80", after := #[{ on := 8, ground := Ground.data }], guard := none }) rfl (fun K hK => ?_) AllReadyH.nil
                    rw [if_pos (by rfl)]
                    go_simp
                    refine (HCU.out _ (by assumption)).mono ?_
                    rintro e wn ⟨rfl, hbn⟩
                    have hSn := HKP.out _ _ (by assumption) hbn
                    refine hK.out _ _ hSn (fun hHeld => ?_)
                    clear hK hSn hbn
                    try simp only [Act.put, List.setIfInBounds_toArray, List.set_cons_zero, List.set_cons_succ]
                    refine wpAnyH_take (i := 10) (oi := { dst := some 40, op := Op.unOp UnOp.not 4 (Operand.tmp 39), type := 4, pos := "edges.go:80", after := #[{ on := 9, ground := Ground.data }], guard := none }) (v := ?_) rfl (by kernel_rfl) (by kernel_rfl) (by kernel_rfl) (fun _ _ _ h => h) (Or.inl ⟨by rfl, ?_⟩) (by assumption) ?_
                    rotate_left
                    · (intro w hSw; (try dsimp only at hSw); go_simp; try with_reducible rfl)
                    try simp only [Act.put, List.setIfInBounds_toArray, List.set_cons_zero, List.set_cons_succ]
                    refine wpAnyH_take (i := 11) (oi := { dst := some 41, op := Op.move (Operand.tmp 40), type := 4, pos := "edges.go:80", after := #[{ on := 10, ground := Ground.data }, { on := 9, ground := Ground.chain }], guard := none }) (v := ?_) rfl (by kernel_rfl) (by kernel_rfl) (by kernel_rfl) (fun _ _ _ h => h) (Or.inl ⟨by rfl, ?_⟩) (by assumption) ?_
                    rotate_left
                    · (intro w hSw; (try dsimp only at hSw); go_simp; try with_reducible rfl)
                    try simp only [Act.put, List.setIfInBounds_toArray, List.set_cons_zero, List.set_cons_succ]
                    refine wpAnyH_take (i := 12) (oi := { dst := some 42, op := Op.move (Operand.tmp 3), type := 3, pos := "edges.go:80", after := #[{ on := 11, ground := Ground.guard }], guard := some (11, false) }) (v := ?_) rfl (by kernel_rfl) (by kernel_rfl) (by kernel_rfl) (fun _ _ _ h => h) (Or.inl ⟨by rfl, ?_⟩) (by assumption) ?_
                    rotate_left
                    · (intro w hSw; (try dsimp only at hSw); go_simp; try with_reducible rfl)
                    try simp only [Act.put, List.setIfInBounds_toArray, List.set_cons_zero, List.set_cons_succ]
                    refine wpAnyH_take (i := 13) (oi := { dst := some 43, op := Op.move (Operand.tmp 2), type := 9, pos := "edges.go:80", after := #[{ on := 11, ground := Ground.guard }], guard := some (11, false) }) (v := ?_) rfl (by kernel_rfl) (by kernel_rfl) (by kernel_rfl) (fun _ _ _ h => h) (Or.inl ⟨by rfl, ?_⟩) (by assumption) ?_
                    rotate_left
                    · (intro w hSw; (try dsimp only at hSw); go_simp; try with_reducible rfl)
                    try simp only [Act.put, List.setIfInBounds_toArray, List.set_cons_zero, List.set_cons_succ]
                    refine wpAnyH_take (i := 14) (oi := { dst := some 44, op := Op.call { callee := Callee.builtin Builtin.len, args := #[Operand.tmp 43], argTypes := #[9] }, type := 3, pos := "edges.go:80", after := #[{ on := 13, ground := Ground.data }, { on := 11, ground := Ground.guard }], guard := some (11, false) }) (v := ?_) rfl (by kernel_rfl) (by kernel_rfl) (by kernel_rfl) (fun _ _ _ h => h) (Or.inl ⟨by rfl, ?_⟩) (by assumption) ?_
                    rotate_left
                    · (intro w hSw; (try dsimp only at hSw); go_simp; try with_reducible rfl)
                    try simp only [Act.put, List.setIfInBounds_toArray, List.set_cons_zero, List.set_cons_succ]
                    refine wpAnyH_take (i := 15) (oi := { dst := some 45, op := Op.binOp BinOp.lss 3 (Operand.tmp 42) (Operand.tmp 44) 3, type := 4, pos := "edges.go:80", after := #[{ on := 12, ground := Ground.data }, { on := 14, ground := Ground.data }, { on := 11, ground := Ground.guard }], guard := some (11, false) }) (v := ?_) rfl (by kernel_rfl) (by kernel_rfl) (by kernel_rfl) (fun _ _ _ h => h) (Or.inl ⟨by rfl, ?_⟩) (by assumption) ?_
                    rotate_left
                    · (intro w hSw; (try dsimp only at hSw); go_simp; try with_reducible rfl)
                    try simp only [Act.put, List.setIfInBounds_toArray, List.set_cons_zero, List.set_cons_succ]
                    refine wpAnyH_take (i := 16) (oi := { dst := some 46, op := Op.move (Operand.tmp 45), type := 4, pos := "edges.go:80", after := #[{ on := 15, ground := Ground.data }, { on := 11, ground := Ground.chain }, { on := 11, ground := Ground.guard }], guard := some (11, false) }) (v := ?_) rfl (by kernel_rfl) (by kernel_rfl) (by kernel_rfl) (fun _ _ _ h => h) (Or.inl ⟨by rfl, ?_⟩) (by assumption) ?_
                    rotate_left
                    · (intro w hSw; (try dsimp only at hSw); go_simp; try with_reducible rfl)
                    try simp only [Act.put, List.setIfInBounds_toArray, List.set_cons_zero, List.set_cons_succ]
                    refine wpAnyH_take (i := 17) (oi := { dst := some 47, op := Op.move (Operand.tmp 2), type := 9, pos := "edges.go:80", after := #[{ on := 16, ground := Ground.guard }], guard := some (16, true) }) (v := undef) rfl (by kernel_rfl) (by kernel_rfl) (by kernel_rfl) (fun _ _ _ h => h) (Or.inr ⟨by rfl, rfl⟩) (by assumption) ?_
                    try simp only [Act.put, List.setIfInBounds_toArray, List.set_cons_zero, List.set_cons_succ]
                    refine wpAnyH_take (i := 18) (oi := { dst := some 48, op := Op.move (Operand.tmp 3), type := 3, pos := "edges.go:80", after := #[{ on := 16, ground := Ground.guard }], guard := some (16, true) }) (v := undef) rfl (by kernel_rfl) (by kernel_rfl) (by kernel_rfl) (fun _ _ _ h => h) (Or.inr ⟨by rfl, rfl⟩) (by assumption) ?_
                    try simp only [Act.put, List.setIfInBounds_toArray, List.set_cons_zero, List.set_cons_succ]
                    refine wpAnyH_take (i := 19) (oi := { dst := some 49, op := Op.slice 9 (Operand.tmp 47) none (some (Operand.tmp 48)) none, type := 9, pos := "edges.go:80", after := #[{ on := 17, ground := Ground.data }, { on := 18, ground := Ground.data }, { on := 16, ground := Ground.guard }], guard := some (16, true) }) (v := undef) rfl (by kernel_rfl) (by kernel_rfl) (by kernel_rfl) (fun _ _ _ h => h) (Or.inr ⟨by rfl, rfl⟩) (by assumption) ?_
                    try simp only [Act.put, List.setIfInBounds_toArray, List.set_cons_zero, List.set_cons_succ]
                    refine wpAnyH_take (i := 20) (oi := { dst := some 50, op := Op.move (Operand.tmp 5), type := 9, pos := "edges.go:80", after := #[{ on := 16, ground := Ground.guard }], guard := some (16, true) }) (v := undef) rfl (by kernel_rfl) (by kernel_rfl) (by kernel_rfl) (fun _ _ _ h => h) (Or.inr ⟨by rfl, rfl⟩) (by assumption) ?_
                    try simp only [Act.put, List.setIfInBounds_toArray, List.set_cons_zero, List.set_cons_succ]
                    refine wpAnyH_take (i := 21) (oi := { dst := some 51, op := Op.binOp BinOp.add 9 (Operand.tmp 49) (Operand.tmp 50) 9, type := 9, pos := "edges.go:80", after := #[{ on := 19, ground := Ground.data }, { on := 20, ground := Ground.data }, { on := 16, ground := Ground.guard }], guard := some (16, true) }) (v := undef) rfl (by kernel_rfl) (by kernel_rfl) (by kernel_rfl) (fun _ _ _ h => h) (Or.inr ⟨by rfl, rfl⟩) (by assumption) ?_
                    try simp only [Act.put, List.setIfInBounds_toArray, List.set_cons_zero, List.set_cons_succ]
                    refine wpAnyH_take (i := 22) (oi := { dst := some 52, op := Op.move (Operand.tmp 2), type := 9, pos := "edges.go:80", after := #[{ on := 16, ground := Ground.guard }], guard := some (16, true) }) (v := undef) rfl (by kernel_rfl) (by kernel_rfl) (by kernel_rfl) (fun _ _ _ h => h) (Or.inr ⟨by rfl, rfl⟩) (by assumption) ?_
                    try simp only [Act.put, List.setIfInBounds_toArray, List.set_cons_zero, List.set_cons_succ]
                    refine wpAnyH_take (i := 23) (oi := { dst := some 53, op := Op.move (Operand.tmp 3), type := 3, pos := "edges.go:80", after := #[{ on := 16, ground := Ground.guard }], guard := some (16, true) }) (v := undef) rfl (by kernel_rfl) (by kernel_rfl) (by kernel_rfl) (fun _ _ _ h => h) (Or.inr ⟨by rfl, rfl⟩) (by assumption) ?_
                    try simp only [Act.put, List.setIfInBounds_toArray, List.set_cons_zero, List.set_cons_succ]
                    refine wpAnyH_take (i := 24) (oi := { dst := some 54, op := Op.binOp BinOp.add 3 (Operand.tmp 53) (Operand.const (Value.int IntKind.i64 1)) 3, type := 3, pos := "edges.go:80", after := #[{ on := 23, ground := Ground.data }, { on := 16, ground := Ground.guard }], guard := some (16, true) }) (v := undef) rfl (by kernel_rfl) (by kernel_rfl) (by kernel_rfl) (fun _ _ _ h => h) (Or.inr ⟨by rfl, rfl⟩) (by assumption) ?_
                    try simp only [Act.put, List.setIfInBounds_toArray, List.set_cons_zero, List.set_cons_succ]
                    refine wpAnyH_take (i := 25) (oi := { dst := some 55, op := Op.slice 9 (Operand.tmp 52) (some (Operand.tmp 54)) none none, type := 9, pos := "edges.go:80", after := #[{ on := 22, ground := Ground.data }, { on := 24, ground := Ground.data }, { on := 16, ground := Ground.guard }], guard := some (16, true) }) (v := undef) rfl (by kernel_rfl) (by kernel_rfl) (by kernel_rfl) (fun _ _ _ h => h) (Or.inr ⟨by rfl, rfl⟩) (by assumption) ?_
                    try simp only [Act.put, List.setIfInBounds_toArray, List.set_cons_zero, List.set_cons_succ]
                    refine wpAnyH_take (i := 26) (oi := { dst := some 56, op := Op.binOp BinOp.add 9 (Operand.tmp 51) (Operand.tmp 55) 9, type := 9, pos := "edges.go:80", after := #[{ on := 21, ground := Ground.data }, { on := 25, ground := Ground.data }, { on := 16, ground := Ground.guard }], guard := some (16, true) }) (v := undef) rfl (by kernel_rfl) (by kernel_rfl) (by kernel_rfl) (fun _ _ _ h => h) (Or.inr ⟨by rfl, rfl⟩) (by assumption) ?_
                    try simp only [Act.put, List.setIfInBounds_toArray, List.set_cons_zero, List.set_cons_succ]
                    refine wpAnyH_take (i := 27) (oi := { dst := some 57, op := Op.call { callee := Callee.value (Operand.func 18), args := #[Operand.tmp 56], argTypes := #[9] }, type := 4, pos := "edges.go:80", after := #[{ on := 26, ground := Ground.data }, { on := 16, ground := Ground.chain }, { on := 16, ground := Ground.guard }], guard := some (16, true) }) (v := undef) rfl (by kernel_rfl) (by kernel_rfl) (by kernel_rfl) (fun _ _ _ h => h) (Or.inr ⟨by rfl, rfl⟩) (by assumption) ?_
                    try simp only [Act.put, List.setIfInBounds_toArray, List.set_cons_zero, List.set_cons_succ]
                    refine wpAnyH_take (i := 28) (oi := { dst := some 58, op := Op.unOp UnOp.not 4 (Operand.tmp 57), type := 4, pos := "edges.go:80", after := #[{ on := 27, ground := Ground.data }, { on := 16, ground := Ground.guard }], guard := some (16, true) }) (v := undef) rfl (by kernel_rfl) (by kernel_rfl) (by kernel_rfl) (fun _ _ _ h => h) (Or.inr ⟨by rfl, rfl⟩) (by assumption) ?_
                    try simp only [Act.put, List.setIfInBounds_toArray, List.set_cons_zero, List.set_cons_succ]
                    refine wpAnyH_take (i := 29) (oi := { dst := some 59, op := Op.pick (Operand.tmp 46) (Operand.tmp 58) (Operand.const (Value.bool false)), type := 4, pos := "edges.go:80", after := #[{ on := 16, ground := Ground.data }, { on := 28, ground := Ground.data }, { on := 11, ground := Ground.guard }], guard := some (11, false) }) (v := ?_) rfl (by kernel_rfl) (by kernel_rfl) (by kernel_rfl) (fun _ _ _ h => h) (Or.inl ⟨by rfl, ?_⟩) (by assumption) ?_
                    rotate_left
                    · (intro w hSw; (try dsimp only at hSw); go_simp; try with_reducible rfl)
                    try simp only [Act.put, List.setIfInBounds_toArray, List.set_cons_zero, List.set_cons_succ]
                    refine wpAnyH_take (i := 30) (oi := { dst := some 60, op := Op.pick (Operand.tmp 41) (Operand.const (Value.bool true)) (Operand.tmp 59), type := 4, pos := "edges.go:80", after := #[{ on := 11, ground := Ground.data }, { on := 29, ground := Ground.data }], guard := none }) (v := ?_) rfl (by kernel_rfl) (by kernel_rfl) (by kernel_rfl) (fun _ _ _ h => h) (Or.inl ⟨by rfl, ?_⟩) (by assumption) ?_
                    rotate_left
                    · (intro w hSw; (try dsimp only at hSw); go_simp; try with_reducible rfl)
                    try simp only [Act.put, List.setIfInBounds_toArray, List.set_cons_zero, List.set_cons_succ]
                    refine wpAnyH_done (by kernel_rfl) ?_ _
                    go_wp2_with fail
                    go_roundw
                    case rel => exact ⟨c + 1, by omega, by go_num, Lib.hid (by assumption)⟩
                    case measure => simp [intOf]; omega
              · have hk0 := HK.out
                go_wp2_with fail
                refine (cuts_k (w := wb) _ (by rw [ByteArray.size_extract]; omega) HT.out hk0).mono ?_
                rintro e w4 ⟨rfl, h4, _⟩
                go_wp2_with fail
                refine (cuts_k (w := wb) _ (by rw [ByteArray.size_extract]; omega) HT.out h4).mono ?_
                rintro e w5 ⟨rfl, h5, _⟩
                obtain ⟨l, hl1, hl2, hl3⟩ := two_row (m := 1) w5 9 ⟨#[120]⟩ ⟨#[]⟩ (by decide) (by decide)
                have HL1 := Lib.hid hl1
                clear hl1
                go_wp2_with fail
                refine (places_k (w := wb) _ _ _ _ l (by rw [ByteArray.size_extract]; omega) HL1.out (by omega) HT.out (h5.alloc _)).mono ?_
                rintro e w6 ⟨rfl, h6, _⟩
                go_wp2_with fail
                go_roundw
                case rel => exact ⟨a + 1, by omega, by go_num, Lib.hid h6⟩
                case measure => simp [intOf]; omega
          · go_wp2_with fail
            go_roundw
            case rel => exact ⟨k + 1, by omega, by go_num, HK⟩
            case measure => simp [intOf]; omega
      · go_upto_region 16 with fail
        go_cut [82, 83, 84] from 82 to 84 (fun s n i wx => ∃ (g : Nat) (xs : List Value), s = .slice (some ⟨g, 0, none⟩) 23 23 ∧ n = .int .i64 23 ∧ i = .int .i64 0 ∧ Hid (SRow 30 xs) ∧ Hid (Reads wx wx.heap.size 1 (some ⟨g, 0, none⟩) 23 xs) ∧ Hid (Kn wb wx))
        case first =>
          go_wp2_with fail
          go_meet
          refine ⟨_, _, rfl, rfl, rfl, Lib.hid ?_, Lib.hid (Reads.of_block (heap_alloc_new _ _) rfl), Lib.hid (HK.out.alloc _)⟩
          intro x hx
          simp only [List.mem_cons, List.not_mem_nil, or_false] at hx
          rcases hx with rfl | rfl | rfl | rfl | rfl | rfl | rfl | rfl | rfl | rfl | rfl | rfl | rfl | rfl | rfl | rfl | rfl | rfl | rfl | rfl | rfl | rfl | rfl <;> exact ⟨_, rfl, by decide⟩
        case rest =>
          obtain ⟨g, xs, rfl, rfl, rfl, HX, HR2, HKD⟩ := hcut
          obtain ⟨we, hwe⟩ : ∃ we : World, we = wc := ⟨_, rfl⟩
          subst hwe
          have HTE := Lib.hid (HKD.out.tabs HT.out)
          go_wp2_with fail
          go_loopw [84] (fun i wx => ∃ k : Nat, k ≤ 23 ∧ i = .int .i64 k ∧ Hid (Kn we wx)) (fun i _ => 23 - (intOf i).toNat)
          case atStart => exact ⟨0, by omega, rfl, Lib.hid (Kn.refl _)⟩
          case round =>
            obtain ⟨k, hk, rfl, HK4⟩ := hrel
            by_cases hlt2 : k < 23
            · obtain ⟨ad, s, hA, hb, hs, c1⟩ := HX.out.at_ (HR2.out.below HK4.out) hlt2
              obtain rfl : (⟨g, 0, none⟩ : Addr) = ad := by injection hA
              have hae : (⟨g, 0, none⟩ : Addr).add k = ⟨g, k, none⟩ := by unfold Addr.add; split <;> simp_all
              rw [hae] at c1
              clear hA hb hae
              have hk0 := HK4.out
              go_wp2_with fail
              refine (cuts_k (w := we) _ (by omega) HTE.out hk0).mono ?_
              rintro e w4 ⟨rfl, h4, _⟩
              clear c1
              go_wp2_with fail
              refine (cuts_k (w := we) _ (by rw [ByteArray.size_append]; have : (⟨#[49, 58, 120]⟩ : ByteArray).size = 3 := rfl; omega) HTE.out h4).mono ?_
              rintro e w5 ⟨rfl, h5, _⟩
              go_wp2_with fail
              refine (cuts_k (w := we) _ (by rw [ByteArray.size_append]; have : (⟨#[49, 58, 120]⟩ : ByteArray).size = 3 := rfl; omega) HTE.out h5).mono ?_
              rintro e w6 ⟨rfl, h6, _⟩
              go_wp2_with fail
              refine (places_k (w := we) _ _ _ _ [] (by omega) Reads.none_ (by decide) HTE.out h6).mono ?_
              rintro e w7 ⟨rfl, h7, _⟩
              obtain ⟨l, hl1, hl2, hl3⟩ := two_row (m := 2) w7 9 ⟨#[50, 58]⟩ ⟨#[97, 98]⟩ (by decide) (by decide)
              have HL1 := Lib.hid hl1
              clear hl1
              go_wp2_with fail
              refine (places_k (w := we) _ _ _ _ l (by rw [ByteArray.size_append]; have : (⟨#[48, 58]⟩ : ByteArray).size = 2 := rfl; omega) HL1.out (by omega) HTE.out (h7.alloc _)).mono ?_
              rintro e w8 ⟨rfl, h8, _⟩
              go_wp2_with fail
              go_roundw
              case rel => exact ⟨k + 1, by omega, by go_num, Lib.hid h8⟩
              case measure => simp [intOf]; omega
            · go_wp2_with fail
              go_loopw [8, 9] (fun s i wx => ∃ (k : Nat) (p : ByteArray), k ≤ 4 ∧ s = .string p ∧ i = .int .i64 k ∧ Hid (10 ≤ p.size ∧ p.size * 10 ^ (4 - k) ≤ 100000) ∧ Hid (Kn we wx)) (fun _ i _ => 4 - (intOf i).toNat)
              case atStart => exact ⟨0, _, by omega, rfl, rfl, Lib.hid (by decide), HK4⟩
              case round =>
                clear HK4
                obtain ⟨k2, p, hk2, rfl, rfl, HP, HK5⟩ := hrel
                by_cases hlt3 : k2 < 4
                · have hk0 := HK5.out
                  have HP2 : Hid (10 ≤ p.size * 10 ∧ p.size * 10 * 10 ^ (4 - (k2 + 1)) ≤ 100000 ∧ p.size ≤ 10000 ∧ 10 ≤ p.size) := Lib.hid (by
                    have := HP.out
                    rcases (by omega : k2 = 0 ∨ k2 = 1 ∨ k2 = 2 ∨ k2 = 3) with rfl | rfl | rfl | rfl <;> simp at this ⊢ <;> omega)
                  have hp1 : p.size ≤ 10000 := HP2.out.2.2.1
                  have hp2 : 10 ≤ p.size := HP2.out.2.2.2
                  have hq1 : (1 : Int) ≤ (p.size : Int) := by omega
                  obtain ⟨l, hl1, hl2, hl3⟩ := three_row (m := 10000) wr 9 p (p.extract 1 p.size) ⟨#[]⟩ hp1 (by rw [ByteArray.size_extract]; omega) (by decide)
                  have HL1 := Lib.hid hl1
                  clear hl1
                  go_wp2_with fail
                  refine (lays_k (w := we) _ _ _ l HL1.out (by omega) HTE.out (hk0.alloc _)).mono ?_
                  rintro e w4 ⟨rfl, h4, _⟩
                  have hw1 : IntKind.i64.wrap ((p.size : Int) - 1) = (p.size : Int) - 1 := IntWalk.i64_in _ (by omega)
                  have hq2 : (0 : Int) ≤ (p.size : Int) - 1 := by omega
                  have hq3 : ((p.size : Int) - 1).toNat = p.size - 1 := by omega
                  obtain ⟨l2, hm1, hm2, hm3⟩ := two_row (m := 10000) w4 9 p (p.extract 0 (p.size - 1)) hp1 (by rw [ByteArray.size_extract]; omega)
                  obtain ⟨l3, hn1, hn2, hn3⟩ := two_row (m := 10000) (w4.alloc (.cells #[.string p, .string (p.extract 0 (p.size - 1))] 9)) 9 ⟨#[]⟩ p (by decide) hp1
                  have HM1 : Hid (Reads ((w4.alloc (.cells #[.string p, .string (p.extract 0 (p.size - 1))] 9)).alloc (.cells #[.string ⟨#[]⟩, .string p] 9)) ((w4.alloc (.cells #[.string p, .string (p.extract 0 (p.size - 1))] 9)).alloc (.cells #[.string ⟨#[]⟩, .string p] 9)).heap.size 1 (some ⟨w4.heap.size, 0, none⟩) 2 (tx l2)) := Lib.hid ((hm1.alloc (Nat.le_refl _) (.cells #[.string ⟨#[]⟩, .string p] 9)).more (by simp))
                  have HN1 := Lib.hid hn1
                  clear hm1 hn1
                  go_wp2_with fail
                  refine (back_k (w := we) _ _ _ _ _ _ l2 l3 _ HM1.out (by simpa using HN1.out) (by omega) (by omega) (by decide) HTE.out ((h4.alloc _).alloc _)).mono ?_
                  rintro e w5 ⟨rfl, h5, _⟩
                  go_wp2_with fail
                  go_roundw
                  case rel => exact ⟨k2 + 1, _, by omega, rfl, by go_num, Lib.hid (by have := HP2.out; simp only [ByteArray.size_append]; have e : p.size + p.size + p.size + p.size + p.size + p.size + p.size + p.size + p.size + p.size = p.size * 10 := (by omega); rw [e]; exact ⟨this.1, this.2.1⟩), Lib.hid h5⟩
                  case measure => simp [intOf]; omega
                · go_wp2_with fail
                  refine (lays_k (w := we) _ _ _ [] Reads.none_ (by decide) HTE.out HK5.out).mono ?_
                  rintro e w4 ⟨rfl, h4, _⟩
                  go_wp2_with fail
                  refine (cuts_k (w := we) _ (by decide) HTE.out h4).mono ?_
                  rintro e w5 ⟨rfl, h5, _⟩
                  go_wp2_with fail
                  refine (back_k (w := we) _ _ _ _ _ _ [] [] _ Reads.none_ Reads.none_ (by decide) (by decide) (by decide) HTE.out h5).mono ?_
                  rintro e w6 ⟨rfl, h6, _⟩
                  go_wp2_with fail
                  go_ret
                  exact ⟨rfl, (HKC.out.then HKD.out).then h6, (HKC.out.then HKD.out).then h6⟩
-- >
end DK
end Go.Proofs.YtgjelinnpcekmaaGreatDoor
namespace Go.Proofs.YtgjelinnpcekmaaGreatDoor
open Go.RowKit Err Plain Sha
namespace DK

theorem SRow.app {n : Nat} {xs ys : List Value} (h : SRow n xs) (h2 : SRow n ys) : SRow n (xs ++ ys) := fun x hx => by
  rcases List.mem_append.1 hx with h1 | h1
  · exact h x h1
  · exact h2 x h1
theorem srow_one {n : Nat} (b : ByteArray) (hb : b.size ≤ n) : SRow n [.string b] := fun x hx => by
  obtain rfl := List.mem_singleton.1 hx; exact ⟨b, rfl, hb⟩
theorem SRow.oneCell {n : Nat} {xs : List Value} (h : SRow n xs) : ∀ u ∈ xs, u.oneCell' = true := fun u hu => by
  obtain ⟨b, rfl, _⟩ := h u hu; rfl
theorem own_new (w : World) (base : Nat) (hb : base ≤ w.heap.size) (t : TypeId) (cs : Array Value) (hc : cs.size ≤ 1000) : (w.alloc (.cells cs t)).ownsRow base t 1 (.slice (some ⟨w.heap.size, 0, none⟩) cs.size cs.size) cs.size cs.toList :=
  ⟨by simp, .inr ⟨w.heap.size, cs.size, cs, rfl, hb, heap_alloc_new w _, Nat.le_refl _, by unfold maxLen; omega, by simp, by simp [List.take_of_length_le]⟩⟩
theorem clashes_s {w wx : World} (z : Int) (A : Option Addr) (n c : Nat) (xs : List Value) (hs : SRow 1 xs) (hx : xs.length ≤ 1000) (hr : Reads wx wx.heap.size 1 A n xs) (ht : Tabs w) (h : Kn w wx) : Calls Tryz.prog 22 #[.int .i64 z, .slice A n c] wx (TruePost w wx) := by
  obtain ⟨l, rfl, h2, h3⟩ := srow_tx hs
  exact clashes_k z A n c l hr (by omega) ht h
theorem reads_behind (w : World) (o : Obj) (x : Value) (t : TypeId) : Reads ((w.alloc o).alloc (.cells #[x] t)) ((w.alloc o).alloc (.cells #[x] t)).heap.size 1 (some ⟨w.heap.size + 1, 0, none⟩) 1 [x] := by
  have h := Reads.of_block (n := 1) (size := 1) (heap_alloc_new (w.alloc o) (.cells #[x] t)) rfl
  have e : (w.alloc o).heap.size = w.heap.size + 1 := by simp
  rw [e] at h
  exact h
theorem wpList_append_any_g {P : Program} {w : World} {ops : Array Oper} {rest : List Oper} {o : Oper} {a : Act} {Q : Exit → Act → World → Prop} (hw : Region.wanted o (yielded ops a.tmps) = true) (s x : Operand) (t : TypeId)
    (ho : o.op = .call { callee := .builtin .append, args := #[s, x], argTypes := #[t, t] })
    (base : Nat) (e : TypeId) (i : TypeInfo) (z : Value) (size bytes : Nat) (ht : P.underlying t = some (.slice e)) (hi : P.info? e = some i) (hz : i.zero = some z)
    (hsize : i.size = size) (hby : i.bytes = bytes) (hzs : z.cells.size = size) (hsz : 0 < size)
    (v : Value) (n : Nat) (xs : List Value) (hs : a.eval s = v) (hown : w.ownsRow base e size v n xs)
    (B : Nat) (A : Option Addr) (m c : Nat) (news : List Value) (hx : a.eval x = .slice A m c) (hr : Reads w B size A m news) (h1 : ∀ u ∈ news, u.oneCell' = true)
    (h63 : n + m ≤ maxLen) (hbytes : (n + m) * bytes ≤ 140737488355328) (hbase : base ≤ w.heap.size)
    (h : ∀ v' w', w'.ownsRow base e size v' (n + m) (xs ++ news) → w.grownBy w' v.ownBlock → (v'.ownBlock = v.ownBlock ∨ v'.ownBlock = some w.heap.size) → wpList P ops Q rest (a.put o.dst v') w') : wpList P ops Q (o :: rest) a w :=
  BigFrame.wpList_want hw fun _ hK => wp_append_any w s x t ho base e i z size bytes ht hi hz hsize hby hzs hsz v n xs hs hown B A m c news hx hr h1 h63 hbytes hbase fun v' w' h2 h3 h4 => hK _ _ (h v' w' h2 h3 h4)
-- <
set_option maxHeartbeats 8000000 in
set_option maxRecDepth 100000 in
theorem clashes_any (w : World) (ht : Tabs w) : Calls Tryz.prog 8 #[] w (TruePost w w) := by
  obtain ⟨i0, hi0, hz0, hz1, hz2⟩ := info_parts infoStr
  have HT := Lib.hid ht
  clear ht
  go_enter Tryz.func8, Tryz.ntmps8
  go_wp2_with fail
  go_loopw [1, 2] (fun l i wx => ∃ (k c : Nat) (A : Option Addr) (xs : List Value), k ≤ 60 ∧ l = .slice A k c ∧ i = .int .i64 k ∧ Hid (SRow 1 xs) ∧ Hid (wx.ownsRow w.heap.size 9 1 (.slice A k c) k xs) ∧ Hid (Kn w wx)) (fun _ i _ => 60 - (intOf i).toNat)
  case atStart => exact ⟨0, 0, none, [], by omega, rfl, rfl, Lib.hid (fun x hx => by cases hx), Lib.hid (World.ownsRow_nil _ _ _ _), Lib.hid (Kn.refl w)⟩
  case round =>
    obtain ⟨k, c, A, xs, hk, rfl, rfl, HX, HO, HK⟩ := hrel
    obtain ⟨w1, hw1⟩ : ∃ w1 : World, w1 = wr := ⟨_, rfl⟩
    subst hw1
    by_cases hlt : k < 60
    · have hw0 : IntKind.u8.wrap (k : Int) = (k : Int) := IntWalk.u8_in _ (by omega)
      have hd60 : decide ((k : Int) < 60) = true := by rw [decide_eq_true_iff]; omega
      have hcv := run_convert_reads (P := Tryz.prog) Tryz.underlying30 Tryz.underlying5 Tryz.underlying9 1 (l := [UInt8.ofNat k]) (by
        have e : Lib.byteCells [UInt8.ofNat k] = [.int .u8 k] := by simp [Lib.byteCells]; omega
        rw [e]
        exact Reads.of_block (n := 1) (size := 1) (heap_alloc_new w1 (.cells #[.int .u8 k] 5)) rfl)
      go_wp2_with (at_builtin; go_loud (refine wpList_append_any _ rfl _ _ 29 rfl w.heap.size 9 i0 _ 1 16 Tryz.underlying29 hi0 hz0 hz1 hz2 rfl (by decide) _ _ _ rfl ((World.ownsRow.alloc HO.out _).alloc _) _ _ 1 1 [.string ⟨#[UInt8.ofNat k]⟩] rfl (reads_behind _ _ _ _) (by intro u hu; obtain rfl := List.mem_singleton.1 hu; rfl) (by unfold maxLen; omega) (by omega) (by have := HK.out.size; simp; omega) ?_); intro v2 w2 hown2 hgrow2 _; have HO2 := Lib.hid hown2; have HK2 := Lib.hid (Kn.grown ((HK.out.alloc _).alloc _) hgrow2 (fun g hg => (World.ownsRow.lt HO.out g hg).1)); obtain ⟨A2, c2, rfl, hr2⟩ := own_readsN hown2; have HR2 := Lib.hid hr2; clear hown2 hgrow2 hr2)
      have HX2 : Hid (SRow 1 (xs ++ [.string ⟨#[UInt8.ofNat k]⟩])) := Lib.hid (HX.out.app (srow_one _ (Nat.le_refl 1)))
      have hxl : (xs ++ [Value.string ⟨#[UInt8.ofNat k]⟩]).length = (k + 1) * 1 := HO2.out.1
      have HXL : Hid ((xs ++ [Value.string ⟨#[UInt8.ofNat k]⟩]).length ≤ 1000) := Lib.hid (by omega)
      clear hxl hcv
      have HT2 := Lib.hid (HK2.out.tabs HT.out)
      go_loopw [3] (fun i wx => ∃ j : Nat, j ≤ 3 ∧ i = .int .i64 j ∧ Hid (Kn w2 wx)) (fun i _ => 3 - (intOf i).toNat)
      case atStart => exact ⟨0, by omega, rfl, Lib.hid (Kn.refl _)⟩
      case round =>
        obtain ⟨j, hj, rfl, HK3⟩ := hrel
        by_cases hj3 : j < 3
        · go_wp2_with fail
          refine (clashes_s (w := w2) _ _ _ _ _ HX2.out HXL.out ((HR2.out.below HK3.out).more HK3.out.size) HT2.out HK3.out).mono ?_
          rintro e w3 ⟨rfl, h3, _⟩
          go_wp2_with fail
          go_roundw
          case rel => exact ⟨j + 1, by omega, by go_num, Lib.hid h3⟩
          case measure => simp [intOf]; omega
        · go_wp2_with fail
          go_roundw
          case rel => exact ⟨k + 1, c2, A2, _, by omega, rfl, by go_num, HX2, Lib.hid (own_kept HO2.out HK3.out), Lib.hid (HK2.out.then HK3.out)⟩
          case measure => simp [intOf]; omega
    · obtain rfl : k = 60 := by omega
      have hxl : xs.length = 60 * 1 := HO.out.1
      have HXL : Hid (xs.length = 60) := Lib.hid (by omega)
      clear hxl
      have HR := Lib.hid (Reads.of_own HO.out)
      have HS5 : Hid (SRow 1 [.string ⟨#[97]⟩, .string ⟨#[97]⟩, .string ⟨#[]⟩, .string ⟨#[]⟩, .string ⟨#[97]⟩]) := Lib.hid (by
        intro x hx
        simp only [List.mem_cons, List.not_mem_nil, or_false] at hx
        rcases hx with rfl | rfl | rfl | rfl | rfl <;> exact ⟨_, rfl, by decide⟩)
      have HO5 := Lib.hid (own_new w1 w1.heap.size (Nat.le_refl _) 9 #[.string ⟨#[97]⟩, .string ⟨#[97]⟩, .string ⟨#[]⟩, .string ⟨#[]⟩, .string ⟨#[97]⟩] (by decide))
      have HT1 := Lib.hid (HK.out.tabs HT.out)
      go_wp2_with (at_builtin; refine wpList_append_any _ rfl _ _ 29 rfl w1.heap.size 9 i0 _ 1 16 Tryz.underlying29 hi0 hz0 hz1 hz2 rfl (by decide) _ 5 _ rfl HO5.out _ _ 60 c xs rfl (HR.out.alloc (Nat.le_refl _) _) HX.out.oneCell (by unfold maxLen; omega) (by omega) (by simp) ?_; intro v2 w2 hown2 hgrow2 _; have HO2 := Lib.hid hown2; have HK2 := Lib.hid (Kn.grown (w := w1) ((Kn.refl w1).alloc _) hgrow2 (fun g hg => (World.ownsRow.lt HO5.out g hg).1)); obtain ⟨A2, c2, rfl, hr2⟩ := own_readsN hown2; have HR2 := Lib.hid hr2; clear hown2 hgrow2 hr2)
      refine (clashes_s (w := w1) _ _ _ _ _ (HS5.out.app HX.out) (by rw [List.length_append, HXL.out]; decide) HR2.out HT1.out HK2.out).mono ?_
      rintro e w3 ⟨rfl, h3, _⟩
      have HO3 := Lib.hid (own_kept HO.out h3)
      have HR3 := Lib.hid ((HR.out.below h3).more h3.size)
      have HK3 := Lib.hid (HK.out.then h3)
      have HT3 := Lib.hid (h3.tabs HT1.out)
      clear h3
      go_wp2_with (at_builtin; go_loud (refine wpList_append_any_g (by rfl) _ _ 29 rfl w.heap.size 9 i0 _ 1 16 Tryz.underlying29 hi0 hz0 hz1 hz2 rfl (by decide) _ 60 _ rfl HO3.out _ _ 60 c xs rfl HR3.out HX.out.oneCell (by unfold maxLen; omega) (by omega) (by have := HK3.out.size; omega) ?_); intro v4 w4 hown4 hgrow4 _; have HO4 := Lib.hid hown4; have HK4 := Lib.hid (Kn.grown HK3.out hgrow4 (fun g hg => (World.ownsRow.lt HO3.out g hg).1)); obtain ⟨A4, c4, rfl, hr4⟩ := own_readsN hown4; have HR4 := Lib.hid hr4; clear hown4 hgrow4 hr4)
      refine (clashes_s (w := w) _ _ _ _ _ (HX.out.app HX.out) (by rw [List.length_append, HXL.out]; decide) HR4.out HT.out HK4.out).mono ?_
      rintro e w5 ⟨rfl, h5, _⟩
      go_wp2_with fail
      refine (clashes_s (w := w) _ _ _ _ [] (fun x hx => by cases hx) (by decide) Reads.none_ HT.out h5).mono ?_
      rintro e w6 ⟨rfl, h6, _⟩
      go_wp2_with fail
      refine (clashes_s (w := w) _ _ _ _ [.string ⟨#[120]⟩] (srow_one _ (by decide)) (by decide) (Reads.of_block (heap_alloc_new w6 _) rfl) HT.out (h6.alloc _)).mono ?_
      rintro e w7 ⟨rfl, h7, _⟩
      go_wp2_with fail
      go_ret
      exact ⟨rfl, h7, h7⟩
-- >
end DK
end Go.Proofs.YtgjelinnpcekmaaGreatDoor
