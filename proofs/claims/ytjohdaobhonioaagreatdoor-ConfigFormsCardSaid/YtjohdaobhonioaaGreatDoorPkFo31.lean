/-
  Parts of the proof: CfWr.
-/
import Derived.Test.YtjohdaobhonioaaGreatDoorPkFo30
import Derived.Test.YtjohdaobhonioaaGreatDoorPkFo20
namespace Go.Proofs.YtjohdaobhonioaaGreatDoor
open Go.RowKit
namespace Js.Cf
structure Few (i : Img) : Prop where
 env : i.cfg.env.length ≤ 1099511627776
 ports : i.cfg.ports.length ≤ 1099511627776
 labels : i.cfg.labels.length ≤ 1099511627776
 cmd : i.cfg.cmd.length ≤ 1099511627776
 entry : i.cfg.entry.length ≤ 1099511627776
 past : i.past.length ≤ 1099511627776
 diffs : i.diffs.length ≤ 1099511627776
 size : sizeT (textsI i) ≤ 1099511627775
theorem less_no {x y : B} (h : lexL x y = true) : Op.bytesLess y x = false /\ (y == x) = false := by
 constructor
 . rw [bytesLess_eq]
   exact decide_eq_false fun h2 => by
    have h3 := lexL_trans h ((lexL_lt y x).2 h2)
    rw [lexL_irrefl] at h3; cases h3
 . rw [beq_eq_false_iff_ne]
   intro e; subst e; rw [lexL_irrefl] at h; cases h
theorem less_yes {x y : B} (h : lexL x y = false) : Op.bytesLess y x = true ∨ (Op.bytesLess y x = false /\ (y == x) = true) := by
 rcases lexL_total x y with e | e | e
 . subst e
   right
   exact ⟨by rw [bytesLess_eq]; exact decide_eq_false (fun h2 => by have := (lexL_lt x x).2 h2; rw [lexL_irrefl] at this; cases this), by simp⟩
 . rw [h] at e; cases e
 . left; rw [bytesLess_eq]; exact decide_eq_true ((lexL_lt y x).1 e)
theorem sizeT_mem {l : List B} {x : B} (h : x ∈ l) : x.length ≤ sizeT l := by
 induction l with
 | nil => cases h
 | cons a r ih =>
  rw [sizeT_cons]
  rcases List.mem_cons.1 h with rfl | h
  . omega
  . have := ih h; omega
def l3 (i : Img) (k : Nat) : List B := match k with
 | 0 => i.cfg.ports
 | 1 => i.cfg.cmd
 | _ => i.cfg.entry
def s3 (i : Img) (k : Nat) : Nat := match k with
 | 0 => i.cfg.dir.length + i.cfg.user.length
 | 1 => i.cfg.dir.length + i.cfg.user.length + sizeT i.cfg.ports
 | 2 => i.cfg.dir.length + i.cfg.user.length + sizeT i.cfg.ports + sizeT i.cfg.cmd
 | _ => i.cfg.dir.length + i.cfg.user.length + sizeT i.cfg.ports + sizeT i.cfg.cmd + sizeT i.cfg.entry
def l2 (i : Img) (k : Nat) : List (B × B) := match k with
 | 0 => i.cfg.env
 | _ => i.cfg.labels
def s2 (i : Img) (k : Nat) : Nat := match k with
 | 0 => s3 i 3
 | 1 => s3 i 3 + sizeT (flatP i.cfg.env)
 | _ => s3 i 3 + sizeT (flatP i.cfg.env) + sizeT (flatP i.cfg.labels)
theorem s3_step (i : Img) {k : Nat} (h : k < 3) : s3 i (k + 1) = s3 i k + sizeT (l3 i k) := by
 match k, h with
 | 0, _ => rfl
 | 1, _ => rfl
 | 2, _ => rfl
theorem s2_step (i : Img) {k : Nat} (h : k < 2) : s2 i (k + 1) = s2 i k + sizeT (flatP (l2 i k)) := by
 match k, h with
 | 0, _ => rfl
 | 1, _ => rfl
theorem s2_all (i : Img) : s2 i 2 + sizeT (i.past.map Prod.fst) = sizeT (textsI i) := by
 rw [size_is]
 show i.cfg.dir.length + i.cfg.user.length + sizeT i.cfg.ports + sizeT i.cfg.cmd + sizeT i.cfg.entry + sizeT (flatP i.cfg.env) + sizeT (flatP i.cfg.labels) + _ = _
 omega
theorem s3_le (i : Img) {k : Nat} (h : k ≤ 3) : s3 i k ≤ s3 i 3 := by
 match k, h with
 | 0, _ => show i.cfg.dir.length + i.cfg.user.length ≤ i.cfg.dir.length + i.cfg.user.length + sizeT i.cfg.ports + sizeT i.cfg.cmd + sizeT i.cfg.entry; omega
 | 1, _ => show i.cfg.dir.length + i.cfg.user.length + sizeT i.cfg.ports ≤ i.cfg.dir.length + i.cfg.user.length + sizeT i.cfg.ports + sizeT i.cfg.cmd + sizeT i.cfg.entry; omega
 | 2, _ => show i.cfg.dir.length + i.cfg.user.length + sizeT i.cfg.ports + sizeT i.cfg.cmd ≤ i.cfg.dir.length + i.cfg.user.length + sizeT i.cfg.ports + sizeT i.cfg.cmd + sizeT i.cfg.entry; omega
 | 3, _ => exact Nat.le_refl _
theorem s2_le (i : Img) {k : Nat} (h : k ≤ 2) : s2 i k ≤ sizeT (textsI i) := by
 have := s2_all i
 match k, h with
 | 0, _ => have h2 : s2 i 2 = s3 i 3 + sizeT (flatP i.cfg.env) + sizeT (flatP i.cfg.labels) := rfl; show s3 i 3 ≤ _; omega
 | 1, _ => have h2 : s2 i 2 = s3 i 3 + sizeT (flatP i.cfg.env) + sizeT (flatP i.cfg.labels) := rfl; show s3 i 3 + sizeT (flatP i.cfg.env) ≤ _; omega
 | 2, _ => omega
theorem at_past {w : World} {B' n : Nat} {A : Option Addr} {l : List (B × Bool)} (h : Reads w B' 2 A n (pastC l)) (hn : l.length = n) {k : Nat} {x : B × Bool} (hx : l[k]? = some x) :
  ∃ ad, A = some ad /\ w.cell? (ad.add (k * 2)) = some (.string ⟨x.1.toArray⟩) /\ w.cell? ⟨(ad.add (k * 2)).block, (ad.add (k * 2)).off + 1, none⟩ = some (.bool x.2) := by
 obtain ⟨ad, hA, _, hc⟩ := at_flat (f := fun p : B × Bool => [.string ⟨p.1.toArray⟩, .bool p.2]) (fun x _ => past_len x) h hn hx
 have h0 := hc 0 _ rfl
 have h1 := hc 1 _ rfl
 rw [add_of_add, Nat.add_zero] at h0
 exact ⟨ad, hA, h0, by rw [<- h1]; unfold Addr.add; simp⟩
theorem sizeP_snoc {l : List (B × Bool)} {k : Nat} {x : B × Bool} (h : l[k]? = some x) : sizeT ((l.take (k + 1)).map Prod.fst) = sizeT ((l.take k).map Prod.fst) + x.1.length := by
 have := sizeT_snoc (l := l.map Prod.fst) (k := k) (x := x.1) (by rw [List.getElem?_map, h]; rfl)
 rw [<- List.map_take, <- List.map_take] at this
 exact this
theorem sizeP_take (l : List (B × Bool)) (k : Nat) : sizeT ((l.take k).map Prod.fst) ≤ sizeT (l.map Prod.fst) := by
 rw [List.map_take]; exact sizeT_take _ _
set_option maxHeartbeats 16000000 in
set_option maxRecDepth 100000 in
theorem wrong_any (i : Img) (cs : Array Value) (w : World) (him : ImgR w w.heap.size i cs) (hfew : Few i) (hst : St w) :
  Calls Tryz.prog 37 #[.agg cs] w fun x w' => x = .returned (errV (w0 i)) /\ Below w.heap.size w w' := by
 obtain ⟨A1, c1, A2, c2, A3, c3, A4, c4, A5, c5, A6, c6, A7, c7, rfl, r1, r2, r3, r4, r5, r6, r7, _⟩ := him
 obtain ⟨n1, hn1⟩ : ∃ n1, n1 = i.cfg.env.length := ⟨_, rfl⟩
 obtain ⟨n2, hn2⟩ : ∃ n2, n2 = i.cfg.ports.length := ⟨_, rfl⟩
 obtain ⟨n3, hn3⟩ : ∃ n3, n3 = i.cfg.labels.length := ⟨_, rfl⟩
 obtain ⟨n4, hn4⟩ : ∃ n4, n4 = i.cfg.cmd.length := ⟨_, rfl⟩
 obtain ⟨n5, hn5⟩ : ∃ n5, n5 = i.cfg.entry.length := ⟨_, rfl⟩
 obtain ⟨n6, hn6⟩ : ∃ n6, n6 = i.past.length := ⟨_, rfl⟩
 obtain ⟨n7, hn7⟩ : ∃ n7, n7 = i.diffs.length := ⟨_, rfl⟩
 have HN : Hid (n1 = i.cfg.env.length /\ n2 = i.cfg.ports.length /\ n3 = i.cfg.labels.length /\ n4 = i.cfg.cmd.length /\ n5 = i.cfg.entry.length /\ n6 = i.past.length /\ n7 = i.diffs.length) := Lib.hid ⟨hn1, hn2, hn3, hn4, hn5, hn6, hn7⟩
 have HR := Lib.hid (And.intro r1 (And.intro r2 (And.intro r3 (And.intro r4 (And.intro r5 r6)))))
 have HF := Lib.hid hfew
 have HST := Lib.hid hst
 have hl1 := hfew.env
 have hl2 := hfew.ports
 have hl3 := hfew.labels
 have hl4 := hfew.cmd
 have hl5 := hfew.entry
 have hl6 := hfew.past
 have hl7 := hfew.diffs
 rw [<- hn1] at hl1
 rw [<- hn2] at hl2
 rw [<- hn3] at hl3
 rw [<- hn4] at hl4
 rw [<- hn5] at hl5
 rw [<- hn6] at hl6
 rw [<- hn7] at hl7
 rw [<- hn1, <- hn2, <- hn3, <- hn4, <- hn5, <- hn6] at HR
 rw [<- hn1, <- hn2, <- hn3, <- hn4, <- hn5, <- hn6, <- hn7]
 obtain ⟨dir, hdir⟩ : ∃ dir, dir = i.cfg.dir := ⟨_, rfl⟩
 obtain ⟨usr, husr⟩ : ∃ usr, usr = i.cfg.user := ⟨_, rfl⟩
 have HD : Hid (dir = i.cfg.dir /\ usr = i.cfg.user) := Lib.hid ⟨hdir, husr⟩
 have hdl : dir.length + usr.length ≤ 1099511627775 := by
  have := hfew.size
  rw [size_is, <- hdir, <- husr] at this
  omega
 rw [<- hdir, <- husr]
 clear hn1 hn2 hn3 hn4 hn5 hn6 hn7 hdir husr r1 r2 r3 r4 r5 r6 r7 hfew hst
 obtain ⟨b0, hb0⟩ : ∃ b0, b0 = w.heap.size := ⟨_, rfl⟩
 obtain ⟨CS, hCS⟩ : ∃ CS : Array Value, CS = #[.slice A1 n1 c1, .string ⟨dir.toArray⟩, .string ⟨usr.toArray⟩, .slice A2 n2 c2, .slice A3 n3 c3, .slice A4 n4 c4, .slice A5 n5 c5, .slice A6 n6 c6, .slice A7 n7 c7] := ⟨_, rfl⟩
 obtain ⟨wa, hwa⟩ : ∃ wa, wa = w.alloc (.cells CS 29) := ⟨_, rfl⟩
 have HBI : Hid (Blk wa b0 29 CS) := Lib.hid (by rw [hwa, hb0]; exact Blk.new _ _ _)
 have HWA : Hid (Below b0 w wa /\ wa.heap.size = b0 + 1) := Lib.hid (by rw [hwa, hb0]; exact ⟨(Below.refl _ _).alloc (Nat.le_refl _) _, by simp⟩)
 have HB0 : Hid (b0 = w.heap.size) := Lib.hid hb0
 rw [<- hb0] at HR
 subst hCS
 have hif : (Tryz.prog.info? 25).map (·.size) = some 7 := by kernel_rfl
 have hrg : wa.rangeAt b0 0 [.slice A1 n1 c1, .string ⟨dir.toArray⟩, .string ⟨usr.toArray⟩, .slice A2 n2 c2, .slice A3 n3 c3, .slice A4 n4 c4, .slice A5 n5 c5] := fun j v hv => by
  rw [Nat.zero_add, HBI.out.cell]
  have hj := (List.getElem?_eq_some_iff.1 hv).1
  rw [List.getElem?_toArray]
  show ([.slice A1 n1 c1, .string ⟨dir.toArray⟩, .string ⟨usr.toArray⟩, .slice A2 n2 c2, .slice A3 n3 c3, .slice A4 n4 c4, .slice A5 n5 c5] ++ [.slice A6 n6 c6, .slice A7 n7 c7] : List Value)[j]? = some v
  rw [List.getElem?_append_left hj]; exact hv
 have hmm := @run_makeMap Tryz.prog
 go_enter Tryz.func37, Tryz.ntmps37
 go_upto_region 1 with fail
 rw [<- hwa, <- hb0]
 clear hwa hb0
 go_upto_region 2 with (first | refine wpList_load_mid rfl 25 _ rfl b0 0 rfl _ _ hrg Tryz.underlying25 rfl hif ?_ | refine wpList_store_row rfl 25 _ _ rfl _ _ rfl rfl 25 _ (heap_alloc_new _ _) (by simpa using hif) (by simp) (by simp [Value.oneCell']) ?_)
 try rw [alloc_setRow]
 try simp only [Act.put]
 obtain ⟨wb, hwb⟩ : ∃ wb, wb = wa.alloc (.cells #[.slice A1 n1 c1, .string ⟨dir.toArray⟩, .string ⟨usr.toArray⟩, .slice A2 n2 c2, .slice A3 n3 c3, .slice A4 n4 c4, .slice A5 n5 c5] 25) := ⟨_, rfl⟩
 have HBC : Hid (Blk wb (b0 + 1) 25 #[.slice A1 n1 c1, .string ⟨dir.toArray⟩, .string ⟨usr.toArray⟩, .slice A2 n2 c2, .slice A3 n3 c3, .slice A4 n4 c4, .slice A5 n5 c5]) := Lib.hid (by rw [hwb, <- HWA.out.2]; exact Blk.new _ _ _)
 have HBI2 := Lib.hid (HBI.out.alloc (.cells #[.slice A1 n1 c1, .string ⟨dir.toArray⟩, .string ⟨usr.toArray⟩, .slice A2 n2 c2, .slice A3 n3 c3, .slice A4 n4 c4, .slice A5 n5 c5] 25))
 rw [<- hwb] at HBI2
 have HWB : Hid (Below b0 w wb /\ wb.heap.size = b0 + 2) := Lib.hid (by rw [hwb]; exact ⟨HWA.out.1.alloc (by have := HWA.out.2; omega) _, by simp [HWA.out.2]⟩)
 try rw [<- hwb]
 try rw [HWA.out.2]
 clear hwb hrg hif HBI HWA
 have x1 := HBC.out.cell 1
 have x2 := HBC.out.cell 2
 have x3 := HBC.out.cell 3
 have x5 := HBC.out.cell 5
 have x6 := HBC.out.cell 6
 go_wp2_with fail
 obtain ⟨wc, hwc⟩ : ∃ wc, wc = wb.alloc (.cells #[.slice A2 n2 c2, .slice A4 n4 c4, .slice A5 n5 c5] 23) := ⟨_, rfl⟩
 have HB3 : Hid (Blk wc (b0 + 2) 23 #[.slice A2 n2 c2, .slice A4 n4 c4, .slice A5 n5 c5]) := Lib.hid (by rw [hwc, <- HWB.out.2]; exact Blk.new _ _ _)
 have HBCc := Lib.hid (HBC.out.alloc (.cells #[.slice A2 n2 c2, .slice A4 n4 c4, .slice A5 n5 c5] 23))
 have HBIc := Lib.hid (HBI2.out.alloc (.cells #[.slice A2 n2 c2, .slice A4 n4 c4, .slice A5 n5 c5] 23))
 rw [<- hwc] at HBCc HBIc
 have HWC : Hid (Below b0 w wc /\ wc.heap.size = b0 + 3) := Lib.hid (by rw [hwc]; exact ⟨HWB.out.1.alloc (by have := HWB.out.2; omega) _, by simp [HWB.out.2]⟩)
 rw [<- hwc, HWB.out.2]
 clear hwc HBC HBI2 HWB x1 x2 x3 x5 x6
 have hsz0 : ((dir.length : Int) + (usr.length : Int)) = ((s3 i 0 : Nat) : Int) := by
  show _ = ((i.cfg.dir.length + i.cfg.user.length : Nat) : Int)
  rw [<- HD.out.1, <- HD.out.2]; omega
 have HL3 : Hid (∀ k, k < 3 -> ∃ A n c, wc.cell? ⟨b0 + 2, k, none⟩ = some (.slice A n c) /\ Reads wc b0 1 A n (tx (l3 i k)) /\ (l3 i k).length = n /\ n ≤ 1099511627776) := Lib.hid fun k hk => by
  have hr := HR.out
  match k, hk with
  | 0, _ => exact ⟨A2, n2, c2, HB3.out.cell 0, hr.2.1.below HWC.out.1, HN.out.2.1.symm, hl2⟩
  | 1, _ => exact ⟨A4, n4, c4, HB3.out.cell 1, hr.2.2.2.1.below HWC.out.1, HN.out.2.2.2.1.symm, hl4⟩
  | 2, _ => exact ⟨A5, n5, c5, HB3.out.cell 2, hr.2.2.2.2.1.below HWC.out.1, HN.out.2.2.2.2.1.symm, hl5⟩
 have hs33 : s3 i 3 ≤ 1099511627775 := by
  have h1 := s2_all i
  have h2 := HF.out.size
  have h3 : s2 i 2 = s3 i 3 + sizeT (flatP i.cfg.env) + sizeT (flatP i.cfg.labels) := rfl
  omega
 rw [hsz0]
 clear hsz0 HB3
 go_loop [4, 42] (fun sz ix => ∃ k : Nat, k ≤ 3 /\ ix = .int .i64 k /\ sz = .int .i64 ((s3 i k : Nat) : Int)) (fun _ ix => 3 - (intOf ix).toNat)
 case atStart => exact ⟨0, by omega, rfl, rfl⟩
 case round =>
  obtain ⟨k, hk, rfl, rfl⟩ := hrel
  by_cases hlt : k < 3
  . obtain ⟨A, n, c, hcell, hrd, hln, hnl⟩ := HL3.out k hlt
    have HRD := Lib.hid hrd
    have HLN := Lib.hid hln
    have hst := s3_step i hlt
    have hle : s3 i (k + 1) ≤ s3 i 3 := s3_le i (by omega)
    have hzl : s3 i k + sizeT (l3 i k) ≤ 1099511627775 := by omega
    obtain ⟨l, hl⟩ : ∃ l, l = l3 i k := ⟨_, rfl⟩
    rw [<- hl] at HRD HLN hst hzl
    obtain ⟨z, hz⟩ : ∃ z, z = s3 i k := ⟨_, rfl⟩
    rw [<- hz] at hst hzl ⊢
    have HST2 := Lib.hid hst
    clear hrd hln hst hle hl hz
    go_wp2_with fail
    go_loop [4, 48] (fun sz ix => ∃ j : Nat, j ≤ n /\ ix = .int .i64 j /\ sz = .int .i64 ((z + sizeT (l.take j) : Nat) : Int)) (fun _ ix => n - (intOf ix).toNat)
    case atStart => exact ⟨0, by omega, rfl, by simp [sizeT]⟩
    case round =>
     obtain ⟨j, hj, rfl, rfl⟩ := hrel
     by_cases hjl : j < n
     . obtain ⟨ad, u, rfl, _, hu, hcu⟩ := HRD.out.at_ hjl
       obtain rfl := tx_get hu (by have := HLN.out; omega)
       have hgx : l[j]? = some (l.getD j []) := by simp [List.getD, List.getElem?_eq_getElem (show j < l.length by have := HLN.out; omega)]
       have hsn := sizeT_snoc hgx
       have htk := sizeT_take l (j + 1)
       have hsz : (⟨(l.getD j []).toArray⟩ : ByteArray).size = (l.getD j []).length := rfl
       generalize l.getD j [] = x at hcu hsn hsz
       obtain ⟨y0, hy0⟩ : ∃ y0, y0 = sizeT (l.take j) := ⟨_, rfl⟩
       obtain ⟨y1, hy1⟩ : ∃ y1, y1 = sizeT (l.take (j + 1)) := ⟨_, rfl⟩
       rw [<- hy0] at hsn ⊢
       rw [<- hy1] at hsn htk
       have HY1 := Lib.hid hy1
       clear hu hgx hy0 hy1
       go_wp2_with fail
       exact ⟨⟨j + 1, by omega, by go_num, by rw [<- HY1.out, hsn]; go_num⟩, by simp [intOf]; omega⟩
     . obtain rfl : j = n := by omega
       have hal : sizeT (l.take j) = sizeT l := by rw [<- HLN.out, List.take_length]
       rw [hal]
       go_wp2_with fail
       exact ⟨⟨k + 1, by omega, by go_num, by rw [HST2.out]⟩, by simp [intOf]; omega⟩
  . obtain rfl : k = 3 := by omega
    have x0 := HBCc.out.cell 0
    have x4 := HBCc.out.cell 4
    go_wp2_with fail
    obtain ⟨wd, hwd⟩ : ∃ wd, wd = wc.alloc (.cells #[.slice A1 n1 c1, .slice A3 n3 c3] 22) := ⟨_, rfl⟩
    have HB4 : Hid (Blk wd (b0 + 3) 22 #[.slice A1 n1 c1, .slice A3 n3 c3]) := Lib.hid (by rw [hwd, <- HWC.out.2]; exact Blk.new _ _ _)
    have HBCd := Lib.hid (HBCc.out.alloc (.cells #[.slice A1 n1 c1, .slice A3 n3 c3] 22))
    have HBId := Lib.hid (HBIc.out.alloc (.cells #[.slice A1 n1 c1, .slice A3 n3 c3] 22))
    rw [<- hwd] at HBCd HBId
    have HWD : Hid (Below b0 w wd /\ wd.heap.size = b0 + 4) := Lib.hid (by rw [hwd]; exact ⟨HWC.out.1.alloc (by have := HWC.out.2; omega) _, by simp [HWC.out.2]⟩)
    rw [<- hwd, HWC.out.2]
    clear hwd x0 x4 HBCc HBIc HWC HL3
    have HL2 : Hid (∀ k, k < 2 -> ∃ A n c, wd.cell? ⟨b0 + 3, k, none⟩ = some (.slice A n c) /\ Reads wd b0 2 A n (px (l2 i k)) /\ (l2 i k).length = n /\ n ≤ 1099511627776) := Lib.hid fun k hk => by
     have hr := HR.out
     match k, hk with
     | 0, _ => exact ⟨A1, n1, c1, HB4.out.cell 0, hr.1.below HWD.out.1, HN.out.1.symm, hl1⟩
     | 1, _ => exact ⟨A3, n3, c3, HB4.out.cell 1, hr.2.2.1.below HWD.out.1, HN.out.2.2.1.symm, hl3⟩
    have hsz : sizeT (textsI i) ≤ 1099511627775 := HF.out.size
    have hz30 : s3 i 3 = s2 i 0 := rfl
    rw [hz30]
    clear hz30 hs33 HB4
    go_loopw [4, 64] (fun sz ix wr => ∃ k : Nat, k ≤ 2 /\ ix = .int .i64 k /\ sz = .int .i64 ((s2 i k : Nat) : Int) /\ Hid (Below (b0 + 4) wd wr /\ b0 + 4 ≤ wr.heap.size)) (fun _ ix _ => 2 - (intOf ix).toNat)
    case atStart => exact ⟨0, by omega, rfl, rfl, Lib.hid ⟨Below.refl _ _, by rw [HWD.out.2]; exact Nat.le_refl _⟩⟩
    case round =>
     obtain ⟨k, hk, rfl, rfl, HW⟩ := hrel
     obtain ⟨we, hwe⟩ : ∃ we, we = wr := ⟨_, rfl⟩
     subst hwe
     by_cases hlt : k < 2
     . obtain ⟨A, n, c, hcell0, hrd0, hln, hnl⟩ := HL2.out k hlt
       have hcell := (HW.out.1.cell (p := ⟨b0 + 3, k, none⟩) (by show b0 + 3 < b0 + 4; omega)).trans hcell0
       have HRD := Lib.hid hrd0
       have HLN := Lib.hid hln
       have hst := s2_step i hlt
       have hle : s2 i (k + 1) ≤ sizeT (textsI i) := s2_le i (by omega)
       have hzl : s2 i k + sizeT (flatP (l2 i k)) ≤ 1099511627775 := by omega
       obtain ⟨l, hl⟩ : ∃ l, l = l2 i k := ⟨_, rfl⟩
       rw [<- hl] at HRD HLN hst hzl
       obtain ⟨z, hz⟩ : ∃ z, z = s2 i k := ⟨_, rfl⟩
       rw [<- hz] at hst hzl ⊢
       have HST2 := Lib.hid hst
       clear hrd0 hln hst hle hl hz hcell0
       go_wp2_with fail
       go_loopw [4, 70] (fun sz ix wr => ∃ j : Nat, j ≤ n /\ ix = .int .i64 j /\ sz = .int .i64 ((z + sizeT (flatP (l.take j)) : Nat) : Int) /\ Hid (Below (b0 + 4) wd wr /\ b0 + 4 ≤ wr.heap.size)) (fun _ ix _ => n - (intOf ix).toNat)
       case atStart => exact ⟨0, by omega, rfl, by simp [flatP, sizeT], HW⟩
       case round =>
        clear hcell HW
        obtain ⟨j, hj, rfl, rfl, HW⟩ := hrel
        by_cases hjl : j < n
        . obtain ⟨ad, rfl, hab, k0, k1⟩ := at_pair (HRD.out.below (HW.out.1.mono (by omega))) hjl
          have hgx : l[j]? = some (l.getD j ([], [])) := by simp [List.getD, List.getElem?_eq_getElem (show j < l.length by have := HLN.out; omega)]
          have hsn := sizeF_snoc hgx
          have htk := sizeF_take l (j + 1)
          generalize l.getD j ([], []) = x at k0 k1 hsn
          obtain ⟨y0, hy0⟩ : ∃ y0, y0 = sizeT (flatP (l.take j)) := ⟨_, rfl⟩
          obtain ⟨y1, hy1⟩ : ∃ y1, y1 = sizeT (flatP (l.take (j + 1))) := ⟨_, rfl⟩
          rw [<- hy0] at hsn ⊢
          rw [<- hy1] at hsn htk
          have HY1 := Lib.hid hy1
          have hs1 : (⟨x.1.toArray⟩ : ByteArray).size = x.1.length := rfl
          have hs2 : (⟨x.2.toArray⟩ : ByteArray).size = x.2.length := rfl
          have HWn : Hid (∀ o, Below (b0 + 4) wd (wr.alloc o) /\ b0 + 4 ≤ (wr.alloc o).heap.size) := Lib.hid fun o => ⟨HW.out.1.alloc HW.out.2 o, by have := HW.out.2; simp; omega⟩
          clear hgx hy0 hy1 hab
          go_wp2_with fail
          refine ⟨⟨j + 1, by omega, by go_num, by rw [<- HY1.out, hsn]; go_num, Lib.hid (HWn.out _)⟩, by simp [intOf]; omega⟩
        . obtain rfl : j = n := by omega
          have hal : sizeT (flatP (l.take j)) = sizeT (flatP l) := by rw [<- HLN.out, List.take_length]
          rw [hal]
          go_wp2_with fail
          exact ⟨⟨k + 1, by omega, by go_num, by rw [HST2.out], HW⟩, by simp [intOf]; omega⟩
     . obtain rfl : k = 2 := by omega
       have xi7 := (HBId.out.below HW.out.1 (by omega)).cell 7
       go_wp2_with fail
       have hsum := s2_all i
       obtain ⟨z0, hz0⟩ : ∃ z0, z0 = s2 i 2 := ⟨_, rfl⟩
       obtain ⟨lp, hlp⟩ : ∃ lp, lp = i.past := ⟨_, rfl⟩
       rw [<- hz0, <- hlp] at hsum
       rw [<- hz0]
       have HRP : Hid (Reads wd b0 2 A6 n6 (pastC lp) /\ lp.length = n6) := Lib.hid ⟨by rw [hlp]; exact HR.out.2.2.2.2.2.below HWD.out.1, by rw [hlp]; exact HN.out.2.2.2.2.2.1.symm⟩
       have HSUM := Lib.hid hsum
       clear hlp hz0
       go_wp2_with fail
       go_loopw [4, 88] (fun sz ix wr => ∃ j : Nat, j ≤ n6 /\ ix = .int .i64 j /\ sz = .int .i64 ((z0 + sizeT ((lp.take j).map Prod.fst) : Nat) : Int) /\ Hid (Below (b0 + 4) wd wr /\ b0 + 4 ≤ wr.heap.size)) (fun _ ix _ => n6 - (intOf ix).toNat)
       case atStart => exact ⟨0, by omega, rfl, by simp [sizeT], HW⟩
       case round =>
        clear HW xi7
        obtain ⟨j, hj, rfl, rfl, HW⟩ := hrel
        by_cases hjl : j < n6
        . have hgx : lp[j]? = some (lp.getD j ([], false)) := by simp [List.getD, List.getElem?_eq_getElem (show j < lp.length by have := HRP.out.2; omega)]
          obtain ⟨ad, rfl, k0, k1⟩ := at_past (HRP.out.1.below (HW.out.1.mono (by omega))) HRP.out.2 hgx
          have hsn := sizeP_snoc hgx
          have htk := sizeP_take lp (j + 1)
          generalize lp.getD j ([], false) = x at k0 k1 hsn
          obtain ⟨y0, hy0⟩ : ∃ y0, y0 = sizeT ((lp.take j).map Prod.fst) := ⟨_, rfl⟩
          obtain ⟨y1, hy1⟩ : ∃ y1, y1 = sizeT ((lp.take (j + 1)).map Prod.fst) := ⟨_, rfl⟩
          rw [<- hy0] at hsn ⊢
          rw [<- hy1] at hsn htk
          have HY1 := Lib.hid hy1
          have hs1 : (⟨x.1.toArray⟩ : ByteArray).size = x.1.length := rfl
          have HWn : Hid (∀ o, Below (b0 + 4) wd (wr.alloc o) /\ b0 + 4 ≤ (wr.alloc o).heap.size) := Lib.hid fun o => ⟨HW.out.1.alloc HW.out.2 o, by have := HW.out.2; simp; omega⟩
          clear hgx hy0 hy1
          go_wp2_with fail
          refine ⟨⟨j + 1, by omega, by go_num, by rw [<- HY1.out, hsn]; go_num, Lib.hid (HWn.out _)⟩, by simp [intOf]; omega⟩
        . obtain rfl : j = n6 := by omega
          have hal : z0 + sizeT ((lp.take j).map Prod.fst) = sizeT (textsI i) := by rw [<- HRP.out.2, List.take_length]; exact HSUM.out
          rw [hal]
          obtain ⟨z, hz⟩ : ∃ z, z = sizeT (textsI i) := ⟨_, rfl⟩
          rw [<- hz] at hsz ⊢
          have HZ := Lib.hid hz
          clear hal hsum hz
          obtain ⟨wf, hwf⟩ : ∃ wf, wf = wr := ⟨_, rfl⟩
          subst hwf
          have xi8 := (HBId.out.below HW.out.1 (by omega)).cell 8
          have xi7 := (HBId.out.below HW.out.1 (by omega)).cell 7
          have xc0 := (HBCd.out.below HW.out.1 (by omega)).cell 0
          have xc5 := (HBCd.out.below HW.out.1 (by omega)).cell 5
          have xc6 := (HBCd.out.below HW.out.1 (by omega)).cell 6
          have HBW : Hid (Below w.heap.size w wf) := Lib.hid (by rw [<- HB0.out]; exact HWD.out.1.trans (HW.out.1.mono (by omega)))
          by_cases g0 : 1024 < n7
          . have q0 : (1024 < (n7 : Int)) = True := eq_true (by omega)
            have HP : Hid (w0 i = 5) := Lib.hid (w0_5 (.inl (by rw [<- HN.out.2.2.2.2.2.2]; exact g0)))
            clear g0
            go_wp2_with fail
            go_ret
            exact ⟨by rw [HP.out]; rfl, HBW.out⟩
          . have q0 : (1024 < (n7 : Int)) = False := eq_false (by omega)
            by_cases g1 : 1024 < j
            . have q1 : (1024 < (j : Int)) = True := eq_true (by omega)
              have HP : Hid (w0 i = 5) := Lib.hid (w0_5 (.inr (.inl (by rw [<- HN.out.2.2.2.2.2.1]; exact g1))))
              clear g0 g1
              go_wp2_with fail
              go_ret
              exact ⟨by rw [HP.out]; rfl, HBW.out⟩
            . have q1 : (1024 < (j : Int)) = False := eq_false (by omega)
              by_cases g2 : 64 < n4
              . have q2 : (64 < (n4 : Int)) = True := eq_true (by omega)
                have HP : Hid (w0 i = 5) := Lib.hid (w0_5 (.inr (.inr (.inl (by rw [<- HN.out.2.2.2.1]; exact g2)))))
                clear g0 g1 g2
                go_wp2_with fail
                go_ret
                exact ⟨by rw [HP.out]; rfl, HBW.out⟩
              . have q2 : (64 < (n4 : Int)) = False := eq_false (by omega)
                by_cases g3 : 64 < n5
                . have q3 : (64 < (n5 : Int)) = True := eq_true (by omega)
                  have HP : Hid (w0 i = 5) := Lib.hid (w0_5 (.inr (.inr (.inr (.inl (by rw [<- HN.out.2.2.2.2.1]; exact g3))))))
                  clear g0 g1 g2 g3
                  go_wp2_with fail
                  go_ret
                  exact ⟨by rw [HP.out]; rfl, HBW.out⟩
                . have q3 : (64 < (n5 : Int)) = False := eq_false (by omega)
                  by_cases g4 : 262144 < z
                  . have q4 : (262144 < (z : Int)) = True := eq_true (by omega)
                    have HP : Hid (w0 i = 5) := Lib.hid (w0_5 (.inr (.inr (.inr (.inr (by rw [<- HZ.out]; exact g4))))))
                    clear g0 g1 g2 g3 g4
                    go_wp2_with fail
                    go_ret
                    exact ⟨by rw [HP.out]; rfl, HBW.out⟩
                  . have q4 : (262144 < (z : Int)) = False := eq_false (by omega)
                    have HBG : Hid (¬ Big i) := Lib.hid (by
                     unfold Big
                     rw [<- HN.out.2.2.2.2.2.2, <- HN.out.2.2.2.2.2.1, <- HN.out.2.2.2.1, <- HN.out.2.2.2.2.1, <- HZ.out]
                     omega)
                    obtain ⟨en, hen⟩ : ∃ en, en = i.cfg.env := ⟨_, rfl⟩
                    have HE : Hid (Reads wd b0 2 A1 n1 (px en) /\ en.length = n1 /\ en = i.cfg.env) := Lib.hid ⟨by rw [hen]; exact HR.out.1.below HWD.out.1, by rw [hen]; exact HN.out.1.symm, hen⟩
                    have HEL : Hid (∀ p ∈ en, p.1.length ≤ 1099511627775) := Lib.hid fun p hp => by
                     have h1 : p.1 ∈ flatP i.cfg.env := List.mem_flatMap.2 ⟨p, by rw [<- hen]; exact hp, by simp⟩
                     have h2 := sizeT_mem h1
                     have h3 := s2_all i
                     have h4 : s2 i 2 = s3 i 3 + sizeT (flatP i.cfg.env) + sizeT (flatP i.cfg.labels) := rfl
                     have h5 := HF.out.size
                     omega
                    clear g0 g1 g2 g3 g4 hen
                    go_wp2_with fail
                    clear q0 q1 q2 q3 q4 xi7 xi8 xc0 xc5 xc6 HBW
                    go_loopw [128] (fun ix wr => ∃ j : Nat, j ≤ n1 /\ ix = .int .i64 j /\ Hid (∀ p ∈ en.take j, varB p.1 = true) /\ Hid (Below (b0 + 4) wd wr /\ b0 + 4 ≤ wr.heap.size)) (fun ix _ => n1 - (intOf ix).toNat)
                    case atStart => exact ⟨0, by omega, rfl, Lib.hid (by simp), HW⟩
                    case round =>
                     clear HW
                     obtain ⟨j1, hj1, rfl, HV, HW⟩ := hrel
                     by_cases hjl : j1 < n1
                     . have hgx : en[j1]? = some (en.getD j1 ([], [])) := by simp [List.getD, List.getElem?_eq_getElem (show j1 < en.length by have := HE.out.2.1; omega)]
                       obtain ⟨ad, rfl, hab, k0, k1⟩ := at_pair (HE.out.1.below (HW.out.1.mono (by omega))) hjl
                       have hmem := List.mem_of_getElem? hgx
                       have HTK : Hid (en.take (j1 + 1) = en.take j1 ++ [en.getD j1 ([], [])]) := Lib.hid (by rw [List.take_add_one, hgx]; rfl)
                       have HXL : Hid ((en.getD j1 ([], [])).1.length ≤ 1099511627776) := Lib.hid (by have := HEL.out _ hmem; omega)
                       have HMEM := Lib.hid hmem
                       generalize en.getD j1 ([], []) = x at k0 k1 HTK HXL HMEM
                       have HWn : Hid (∀ o, Below (b0 + 4) wd (wr.alloc o) /\ b0 + 4 ≤ (wr.alloc o).heap.size) := Lib.hid fun o => ⟨HW.out.1.alloc HW.out.2 o, by have := HW.out.2; simp; omega⟩
                       clear hgx hab hmem
                       go_wp2_with fail
                       refine (variable_any x.1 _ HXL.out).mono ?_
                       rintro y w5 ⟨rfl, rfl⟩
                       cases hvb : varB x.1 with
                       | true =>
                        have HVB := Lib.hid hvb
                        go_wp2_with fail
                        have HV2 : Hid (∀ p ∈ en.take (j1 + 1), varB p.1 = true) := Lib.hid fun p hp => by
                          rw [HTK.out] at hp
                          rcases List.mem_append.1 hp with h | h
                          . exact HV.out p h
                          . simp at h; subst h; exact HVB.out
                        refine ⟨?_, ?_⟩
                        . repeat (first | exact ⟨⟨j1 + 1, by omega, by go_num, HV2, Lib.hid (HWn.out _)⟩, rfl⟩ | apply Exists.intro)
                        . show n1 - ((j1 : Int) + 1).toNat < n1 - ((j1 : Int)).toNat
                          omega
                       | false =>
                        have HP : Hid (w0 i = 8) := Lib.hid (w0_8 HBG.out (by rw [<- HE.out.2.2]; exact HMEM.out) hvb)
                        have HBW : Hid (∀ o, Below w.heap.size w (wr.alloc o)) := Lib.hid fun o => by rw [<- HB0.out]; exact HWD.out.1.trans ((HWn.out o).1.mono (by omega))
                        go_wp2_with fail
                        go_ret
                        exact ⟨by rw [HP.out]; rfl, HBW.out _⟩
                     . obtain rfl : j1 = n1 := by omega
                       have HVA : Hid (∀ p ∈ i.cfg.env, varB p.1 = true) := Lib.hid (by
                        have := HV.out
                        rw [<- HE.out.2.1, List.take_length] at this
                        rw [<- HE.out.2.2]; exact this)
                       obtain ⟨wg, hwg⟩ : ∃ wg, wg = wr := ⟨_, rfl⟩
                       subst hwg
                       clear HV
                       go_upto_region 35 with fail
                       obtain ⟨bm, hbm⟩ : ∃ bm, bm = wg.heap.size := ⟨_, rfl⟩
                       obtain ⟨wm, hwm⟩ : ∃ wm, wm = wg.alloc (.map #[] 0) := ⟨_, rfl⟩
                       have HSN0 : Hid (Seen 9 wm bm 0 []) := Lib.hid (by rw [hwm, hbm]; exact Seen.made _ _)
                       have HWM : Hid (Below (b0 + 4) wd wm /\ b0 + 4 ≤ wm.heap.size /\ b0 + 4 ≤ bm) := Lib.hid (by rw [hwm, hbm]; exact ⟨HW.out.1.alloc HW.out.2 _, by have := HW.out.2; simp; omega, HW.out.2⟩)
                       rw [<- hwm, <- hbm]
                       clear hwm hbm HW
                       have xc0 := (HBCd.out.below HWM.out.1 (by omega)).cell 0
                       go_wp2_with fail
                       clear xc0
                       go_loopw [142] (fun ix wr => ∃ q : Nat, q ≤ j1 /\ ix = .int .i64 q /\ Hid (Seen 9 wr bm q ((en.take q).map Prod.fst)) /\ Hid (dupL ((en.take q).map Prod.fst) = false) /\ Hid (Below (b0 + 4) wd wr /\ b0 + 4 ≤ wr.heap.size)) (fun ix _ => j1 - (intOf ix).toNat)
                       case atStart => exact ⟨0, by omega, rfl, HSN0, Lib.hid rfl, Lib.hid ⟨HWM.out.1, HWM.out.2.1⟩⟩
                       case round =>
                        clear HSN0
                        obtain ⟨q, hq, rfl, HS, HDU, HW⟩ := hrel
                        by_cases hql : q < j1
                        . have hgx : en[q]? = some (en.getD q ([], [])) := by simp [List.getD, List.getElem?_eq_getElem (show q < en.length by have := HE.out.2.1; omega)]
                          obtain ⟨ad, rfl, hab, k0, k1⟩ := at_pair (HE.out.1.below (HW.out.1.mono (by omega))) hql
                          have hmem := List.mem_of_getElem? hgx
                          have HTK : Hid ((en.take (q + 1)).map Prod.fst = (en.take q).map Prod.fst ++ [(en.getD q ([], [])).1]) := Lib.hid (by rw [List.take_add_one, hgx, List.map_append]; rfl)
                          have HXL : Hid ((en.getD q ([], [])).1.length ≤ 1099511627776) := Lib.hid (by have := HEL.out _ hmem; omega)
                          have HGX : Hid ((en.map Prod.fst)[q]? = some (en.getD q ([], [])).1) := Lib.hid (by rw [List.getElem?_map, hgx]; rfl)
                          generalize en.getD q ([], []) = x at k0 k1 HTK HXL HGX
                          obtain ⟨x1, x2⟩ := x
                          simp only at k0 k1 HTK HXL HGX
                          obtain ⟨ks, hks⟩ : ∃ ks, ks = (en.take q).map Prod.fst := ⟨_, rfl⟩
                          rw [<- hks] at HS HDU HTK
                          have HKS := Lib.hid hks
                          clear hgx hab hmem hks
                          go_upto_region 38 with fail
                          obtain ⟨wp, hwp⟩ : ∃ wp, wp = wr.alloc (.cells #[.string ⟨x1.toArray⟩, .string ⟨x2.toArray⟩] 99) := ⟨_, rfl⟩
                          have HSp : Hid (Seen 9 wp bm q ks) := Lib.hid (by rw [hwp]; exact HS.out.alloc _)
                          have HWp : Hid (Below (b0 + 4) wd wp /\ b0 + 4 ≤ wp.heap.size) := Lib.hid (by rw [hwp]; exact ⟨HW.out.1.alloc HW.out.2 _, by have := HW.out.2; simp; omega⟩)
                          obtain ⟨bp, hbp⟩ : ∃ bp, bp = wr.heap.size := ⟨_, rfl⟩
                          have HBP : Hid (Blk wp bp 99 #[.string ⟨x1.toArray⟩, .string ⟨x2.toArray⟩]) := Lib.hid (by rw [hwp, hbp]; exact Blk.new _ _ _)
                          rw [<- hwp, <- hbp]
                          clear hwp hbp k0 k1 HS HW
                          have p0 := HBP.out.cell 0
                          have hlk := HSp.out.look Tryz.underlying9 Tryz.underlying192 x1 (by have := HXL.out; omega)
                          by_cases hm : x1 ∈ ks
                          . rw [decide_eq_true hm] at hlk
                            have HP : Hid (w0 i = 11) := Lib.hid (w0_11 HBG.out HVA.out (by
                              rw [<- HE.out.2.2]
                              exact dup_mem HGX.out (by rw [<- List.map_take, <- HKS.out]; exact hm)))
                            have HBW : Hid (Below w.heap.size w wp) := Lib.hid (by rw [<- HB0.out]; exact HWD.out.1.trans (HWp.out.1.mono (by omega)))
                            clear hm
                            go_wp2_with fail
                            go_ret
                            exact ⟨by rw [HP.out]; rfl, HBW.out⟩
                          . rw [decide_eq_false hm] at hlk
                            have HD2 : Hid (dupL ((en.take (q + 1)).map Prod.fst) = false) := Lib.hid (by rw [HTK.out, dupL_snoc, HDU.out]; simpa using hm)
                            clear hm
                            go_wp2_with (at_mapUpdate; refine wpList_seen rfl _ _ _ rfl rfl HSp.out Tryz.underlying9 Tryz.underlying192 (by omega) x1 rfl rfl (by have := HXL.out; omega) ?_; intro w7 hs7 hg7)
                            have HS7 : Hid (Seen 9 w7 bm (q + 1) ((en.take (q + 1)).map Prod.fst)) := Lib.hid (by rw [HTK.out]; exact hs7)
                            have HW7 : Hid (Below (b0 + 4) wd w7 /\ b0 + 4 ≤ w7.heap.size) := Lib.hid ⟨HWp.out.1.grown hg7 HWp.out.2 (fun g e => by injection e with e; have := HWM.out.2.2; omega), Nat.le_trans HWp.out.2 hg7.size⟩
                            clear hs7 hg7
                            refine ⟨?_, ?_⟩
                            . repeat (first | exact ⟨⟨q + 1, by omega, by go_num, HS7, HD2, HW7⟩, rfl⟩ | apply Exists.intro)
                            . show j1 - ((q : Int) + 1).toNat < j1 - ((q : Int)).toNat
                              omega
                        . obtain rfl : q = j1 := by omega
                          have HDA : Hid (dupL (i.cfg.env.map Prod.fst) = false) := Lib.hid (by
                            have := HDU.out
                            rw [<- HE.out.2.1, List.take_length] at this
                            rw [<- HE.out.2.2]; exact this)
                          obtain ⟨wh, hwh⟩ : ∃ wh, wh = wr := ⟨_, rfl⟩
                          subst hwh
                          clear HS HDU HWM
                          have xc3 := (HBCd.out.below HW.out.1 (by omega)).cell 3
                          obtain ⟨lp2, hlp2⟩ : ∃ lp2, lp2 = i.cfg.ports := ⟨_, rfl⟩
                          have HPR : Hid (Reads wd b0 1 A2 n2 (tx lp2) /\ lp2.length = n2 /\ lp2 = i.cfg.ports) := Lib.hid ⟨by rw [hlp2]; exact HR.out.2.1.below HWD.out.1, by rw [hlp2]; exact HN.out.2.1.symm, hlp2⟩
                          have HPL : Hid (∀ p ∈ lp2, p.length ≤ 1099511627775) := Lib.hid fun p hp => by
                            have h1 := sizeT_mem hp
                            have h2 := s2_all i
                            have h4 : s2 i 2 = i.cfg.dir.length + i.cfg.user.length + sizeT i.cfg.ports + sizeT i.cfg.cmd + sizeT i.cfg.entry + sizeT (flatP i.cfg.env) + sizeT (flatP i.cfg.labels) := rfl
                            have h5 := HF.out.size
                            rw [hlp2] at h1
                            omega
                          clear hlp2
                          go_wp2_with fail
                          have HBW : Hid (∀ wy, Below (b0 + 4) wd wy -> Below w.heap.size w wy) := Lib.hid fun wy h => by rw [<- HB0.out]; exact HWD.out.1.trans (h.mono (by omega))
                          go_loopw [158] (fun ix wr => ∃ r : Nat, r ≤ n2 /\ ix = .int .i64 r /\ Hid (∀ p ∈ lp2.take r, portB p = true) /\ Hid (Below (b0 + 4) wd wr /\ b0 + 4 ≤ wr.heap.size)) (fun ix _ => n2 - (intOf ix).toNat)
                          case atStart => exact ⟨0, by omega, rfl, Lib.hid (by simp), HW⟩
                          case round =>
                            clear HW xc3
                            obtain ⟨r, hr, rfl, HPO, HW⟩ := hrel
                            by_cases hrl : r < n2
                            . obtain ⟨ad, u, rfl, _, hu, hcu⟩ := (HPR.out.1.below (HW.out.1.mono (by omega))).at_ hrl
                              obtain rfl := tx_get hu (by have := HPR.out.2.1; omega)
                              have hgx : lp2[r]? = some (lp2.getD r []) := by simp [List.getD, List.getElem?_eq_getElem (show r < lp2.length by have := HPR.out.2.1; omega)]
                              have hmem := List.mem_of_getElem? hgx
                              have HTK : Hid (lp2.take (r + 1) = lp2.take r ++ [lp2.getD r []]) := Lib.hid (by rw [List.take_add_one, hgx]; rfl)
                              have HXL : Hid ((lp2.getD r []).length ≤ 1099511627776) := Lib.hid (by have := HPL.out _ hmem; omega)
                              have HMEM := Lib.hid hmem
                              generalize lp2.getD r [] = x at hcu HTK HXL HMEM
                              have HC := Lib.hid (port_any x wr HXL.out (HST.out.below (HBW.out _ HW.out.1)))
                              clear hu hgx hmem
                              cases hvb : portB x with
                              | true =>
                               rw [hvb] at HC
                               have HVB := Lib.hid hvb
                               clear hvb
                               go_wp2_with fail
                               refine HC.out.mono ?_
                               rintro y w5 ⟨rfl, hb5⟩
                               have HW5 : Hid (Below (b0 + 4) wd w5 /\ b0 + 4 ≤ w5.heap.size) := Lib.hid ⟨HW.out.1.trans (hb5.mono HW.out.2), Nat.le_trans HW.out.2 hb5.size⟩
                               have HPO2 : Hid (∀ p ∈ lp2.take (r + 1), portB p = true) := Lib.hid fun p hp => by
                                 rw [HTK.out] at hp
                                 rcases List.mem_append.1 hp with h | h
                                 . exact HPO.out p h
                                 . simp at h; subst h; exact HVB.out
                               clear hb5 HC
                               go_wp2_with fail
                               refine ⟨?_, ?_⟩
                               . repeat (first | exact ⟨⟨r + 1, by omega, by go_num, HPO2, HW5⟩, rfl⟩ | apply Exists.intro)
                               . show n2 - ((r : Int) + 1).toNat < n2 - ((r : Int)).toNat
                                 omega
                              | false =>
                               rw [hvb] at HC
                               have HP : Hid (w0 i = 4) := Lib.hid (w0_4 HBG.out HVA.out HDA.out (by rw [<- HPR.out.2.2]; exact HMEM.out) hvb)
                               clear hvb
                               go_wp2_with fail
                               refine HC.out.mono ?_
                               rintro y w5 ⟨rfl, hb5⟩
                               have HW5 : Hid (Below (b0 + 4) wd w5) := Lib.hid (HW.out.1.trans (hb5.mono HW.out.2))
                               clear hb5 HC
                               go_wp2_with fail
                               go_ret
                               exact ⟨by rw [HP.out]; rfl, HBW.out _ HW5.out⟩
                            . obtain rfl : r = n2 := by omega
                              have HPA : Hid (∀ p ∈ i.cfg.ports, portB p = true) := Lib.hid (by
                               have := HPO.out
                               rw [<- HPR.out.2.1, List.take_length] at this
                               rw [<- HPR.out.2.2]; exact this)
                              obtain ⟨wi, hwi⟩ : ∃ wi, wi = wr := ⟨_, rfl⟩
                              subst hwi
                              clear HPO
                              have xc3 := (HBCd.out.below HW.out.1 (by omega)).cell 3
                              go_wp2_with fail
                              go_loopw [170] (fun ix wr => ∃ t : Nat, t ≤ r /\ ix = .int .i64 t /\ Hid (∀ k x y, k + 1 < t -> lp2[k]? = some x -> lp2[k + 1]? = some y -> lexL x y = true) /\ Hid (Below (b0 + 4) wd wr /\ b0 + 4 ≤ wr.heap.size)) (fun ix _ => r - (intOf ix).toNat)
                              case atStart => exact ⟨0, by omega, rfl, Lib.hid (by intro k x y h; omega), HW⟩
                              case round =>
                               clear HW xc3
                               obtain ⟨t, ht, rfl, HRI, HW⟩ := hrel
                               have xc3 := (HBCd.out.below HW.out.1 (by omega)).cell 3
                               by_cases htl : t < r
                               . by_cases ht0 : t = 0
                                 . subst ht0
                                   have HR1 : Hid (∀ k x y, k + 1 < 0 + 1 -> lp2[k]? = some x -> lp2[k + 1]? = some y -> lexL x y = true) := Lib.hid (by intro k x y h; omega)
                                   go_wp2_with fail
                                   go_quiet (fail)
                                   have HWq : Hid (Below (b0 + 4) wd (wr.drewN nq) /\ b0 + 4 ≤ (wr.drewN nq).heap.size) := Lib.hid ⟨below_drewN HW.out.1 nq, HW.out.2⟩
                                   go_wp2
                                   refine ⟨⟨1, by omega, rfl, HR1, HWq⟩, by simp [intOf]; omega⟩
                                 . obtain ⟨t', ht'⟩ : ∃ t', t = t' + 1 := ⟨t - 1, by omega⟩
                                   have hm1 : ((t : Int) - 1) = ((t' : Nat) : Int) := by omega
                                   have hp0 : (0 < (t : Int)) = True := eq_true (by omega)
                                   have hp1 : (0 < t) = True := eq_true (by omega)
                                   obtain ⟨ad, u, rfl, _, hu, hcu⟩ := (HPR.out.1.below (HW.out.1.mono (by omega))).at_ htl
                                   obtain ⟨ad', u', had, _, hu', hcu'⟩ := (HPR.out.1.below (HW.out.1.mono (by omega))).at_ (show t' < r by omega)
                                   cases had
                                   obtain rfl := tx_get hu (by have := HPR.out.2.1; omega)
                                   obtain rfl := tx_get hu' (by have := HPR.out.2.1; omega)
                                   have hgy : lp2[t' + 1]? = some (lp2.getD t []) := by rw [<- ht']; simp [List.getD, List.getElem?_eq_getElem (show t < lp2.length by have := HPR.out.2.1; omega)]
                                   have hgx : lp2[t']? = some (lp2.getD t' []) := by simp [List.getD, List.getElem?_eq_getElem (show t' < lp2.length by have := HPR.out.2.1; omega)]
                                   generalize lp2.getD t [] = y at hcu hgy
                                   generalize lp2.getD t' [] = x at hcu' hgx
                                   have HGY := Lib.hid hgy
                                   have HGX := Lib.hid hgx
                                   have htr' : t' < r := by omega
                                   have HT := Lib.hid ht'
                                   clear hu hu' hgx hgy ht' ht0
                                   by_cases hab : lexL x y = true
                                   . obtain ⟨hbl, hbe⟩ := less_no hab
                                     have HR1 : Hid (∀ k x y, k + 1 < t + 1 -> lp2[k]? = some x -> lp2[k + 1]? = some y -> lexL x y = true) := Lib.hid (by
                                       intro k x2 y2 hk h1 h2
                                       rcases Nat.lt_or_eq_of_le (Nat.le_of_lt_succ hk) with h | h
                                       . exact HRI.out k x2 y2 h h1 h2
                                       . have := HT.out
                                         obtain rfl : k = t' := by omega
                                         rw [HGX.out] at h1; rw [HGY.out] at h2
                                         injection h1 with h1; injection h2 with h2
                                         subst h1; subst h2; exact hab)
                                     clear hab
                                     go_wp2_with fail
                                     go_quiet (fail)
                                     have HWq : Hid (Below (b0 + 4) wd (wr.drewN nq) /\ b0 + 4 ≤ (wr.drewN nq).heap.size) := Lib.hid ⟨below_drewN HW.out.1 nq, HW.out.2⟩
                                     go_wp2
                                     refine ⟨⟨t + 1, by omega, by go_num, HR1, HWq⟩, by simp [intOf]; omega⟩
                                   . have HAB : Hid (lexL x y = false) := Lib.hid (by simpa using hab)
                                     have HP : Hid (w0 i = 1) := Lib.hid (w0_1 HBG.out HVA.out HDA.out HPA.out (.inl (rises_no (by rw [<- HPR.out.2.2]; exact HGX.out) (by rw [<- HPR.out.2.2]; exact HGY.out) HAB.out)))
                                     have hly := less_yes HAB.out
                                     clear hab
                                     rcases hly with hbl | ⟨hbl, hbe⟩
                                     . go_wp2_with fail
                                       go_quiet (fail)
                                       have HWq : Hid (Below (b0 + 4) wd (wr.drewN nq)) := Lib.hid (below_drewN HW.out.1 nq)
                                       go_wp2
                                       go_ret
                                       exact ⟨by rw [HP.out]; rfl, HBW.out _ HWq.out⟩
                                     . go_wp2_with fail
                                       go_quiet (fail)
                                       have HWq : Hid (Below (b0 + 4) wd (wr.drewN nq)) := Lib.hid (below_drewN HW.out.1 nq)
                                       go_wp2
                                       go_ret
                                       exact ⟨by rw [HP.out]; rfl, HBW.out _ HWq.out⟩
                               . obtain rfl : t = r := by omega
                                 have HRP2 : Hid (risesL i.cfg.ports = true) := Lib.hid (rises_of fun k x y h1 h2 => HRI.out k x y (by have h3 := (List.getElem?_eq_some_iff.1 h2).1; rw [<- HPR.out.2.2] at h3; have := HPR.out.2.1; omega) (by rw [HPR.out.2.2]; exact h1) (by rw [HPR.out.2.2]; exact h2))
                                 obtain ⟨wj, hwj⟩ : ∃ wj, wj = wr := ⟨_, rfl⟩
                                 subst hwj
                                 clear HRI xc3
                                 have xc4 := (HBCd.out.below HW.out.1 (by omega)).cell 4
                                 obtain ⟨ll, hll⟩ : ∃ ll, ll = i.cfg.labels := ⟨_, rfl⟩
                                 have HLR : Hid (Reads wd b0 2 A3 n3 (px ll) /\ ll.length = n3 /\ ll = i.cfg.labels) := Lib.hid ⟨by rw [hll]; exact HR.out.2.2.1.below HWD.out.1, by rw [hll]; exact HN.out.2.2.1.symm, hll⟩
                                 clear hll
                                 go_wp2_with fail
                                 clear xc4
                                 go_loopw [194] (fun ix wr => ∃ m : Nat, m ≤ n3 /\ ix = .int .i64 m /\ Hid (∀ x ∈ (ll.take m).map Prod.fst, x ≠ []) /\ Hid (∀ k x y, k + 1 < m -> (ll.map Prod.fst)[k]? = some x -> (ll.map Prod.fst)[k + 1]? = some y -> lexL x y = true) /\ Hid (Below (b0 + 4) wd wr /\ b0 + 4 ≤ wr.heap.size)) (fun ix _ => n3 - (intOf ix).toNat)
                                 case atStart => exact ⟨0, by omega, rfl, Lib.hid (by simp), Lib.hid (by intro k x y h; omega), HW⟩
                                 case round =>
                                   clear HW
                                   obtain ⟨m, hm, rfl, HNE, HRI, HW⟩ := hrel
                                   by_cases hml : m < n3
                                   . obtain ⟨ad, rfl, hab0, k0, k1⟩ := at_pair (HLR.out.1.below (HW.out.1.mono (by omega))) hml
                                     have hgy : ll[m]? = some (ll.getD m ([], [])) := by simp [List.getD, List.getElem?_eq_getElem (show m < ll.length by have := HLR.out.2.1; omega)]
                                     have HTK : Hid ((ll.take (m + 1)).map Prod.fst = (ll.take m).map Prod.fst ++ [(ll.getD m ([], [])).1]) := Lib.hid (by rw [List.take_add_one, hgy, List.map_append]; rfl)
                                     have HGY : Hid ((ll.map Prod.fst)[m]? = some (ll.getD m ([], [])).1) := Lib.hid (by rw [List.getElem?_map, hgy]; rfl)
                                     generalize ll.getD m ([], []) = yy at k0 k1 HTK HGY
                                     obtain ⟨y, y2⟩ := yy
                                     simp only at k0 k1 HTK HGY
                                     clear hgy hab0
                                     go_upto_region 57 with fail
                                     obtain ⟨wp, hwp⟩ : ∃ wp, wp = wr.alloc (.cells #[.string ⟨y.toArray⟩, .string ⟨y2.toArray⟩] 99) := ⟨_, rfl⟩
                                     have HWp : Hid (Below (b0 + 4) wd wp /\ b0 + 4 ≤ wp.heap.size) := Lib.hid (by rw [hwp]; exact ⟨HW.out.1.alloc HW.out.2 _, by have := HW.out.2; simp; omega⟩)
                                     obtain ⟨bp, hbp⟩ : ∃ bp, bp = wr.heap.size := ⟨_, rfl⟩
                                     have HBP : Hid (Blk wp bp 99 #[.string ⟨y.toArray⟩, .string ⟨y2.toArray⟩]) := Lib.hid (by rw [hwp, hbp]; exact Blk.new _ _ _)
                                     rw [<- hwp, <- hbp]
                                     clear hwp hbp k0 k1 HW
                                     have p0 := HBP.out.cell 0
                                     have xc4 := (HBCd.out.below HWp.out.1 (by omega)).cell 4
                                     by_cases hy0 : y = []
                                     . have HP : Hid (w0 i = 1) := Lib.hid (w0_1 HBG.out HVA.out HDA.out HPA.out (.inr (by
                                         have := HGY.out
                                         rw [hy0, HLR.out.2.2] at this
                                         rcases label_nil this with h | h
                                         . exact .inl h
                                         . exact .inr (.inl h))))
                                       subst hy0
                                       go_quiet (fail)
                                       have HWq : Hid (Below (b0 + 4) wd (wp.drewN nq)) := Lib.hid (below_drewN HWp.out.1 nq)
                                       go_wp2
                                       go_ret
                                       exact ⟨by rw [HP.out]; rfl, HBW.out _ HWq.out⟩
                                     . have qy : (y == []) = false := by simpa using hy0
                                       have hye : y.isEmpty = false := by cases y with
                                         | nil => exact absurd rfl hy0
                                         | cons _ _ => rfl
                                       have HNE2 : Hid (∀ x ∈ (ll.take (m + 1)).map Prod.fst, x ≠ []) := Lib.hid (by
                                         rw [HTK.out]
                                         intro x hx
                                         rcases List.mem_append.1 hx with h | h
                                         . exact HNE.out x h
                                         . simp at h; subst h; exact hy0)
                                       clear hy0
                                       by_cases hm0 : m = 0
                                       . subst hm0
                                         have HR1 : Hid (∀ k x y, k + 1 < 0 + 1 -> (ll.map Prod.fst)[k]? = some x -> (ll.map Prod.fst)[k + 1]? = some y -> lexL x y = true) := Lib.hid (by intro k x y h; omega)
                                         go_quiet (fail)
                                         have HWq : Hid (Below (b0 + 4) wd (wp.drewN nq) /\ b0 + 4 ≤ (wp.drewN nq).heap.size) := Lib.hid ⟨below_drewN HWp.out.1 nq, HWp.out.2⟩
                                         go_wp2
                                         refine ⟨?_, ?_⟩
                                         . repeat (first | exact ⟨⟨1, by omega, rfl, HNE2, HR1, HWq⟩, rfl⟩ | exact ⟨1, by omega, rfl, HNE2, HR1, HWq⟩ | apply Exists.intro)
                                         . simp [intOf]; omega
                                       . obtain ⟨t', ht'⟩ : ∃ t', m = t' + 1 := ⟨m - 1, by omega⟩
                                         have hm1 : ((m : Int) - 1) = ((t' : Nat) : Int) := by omega
                                         have hp0 : (0 < (m : Int)) = True := eq_true (by omega)
                                         have hp1 : (0 < m) = True := eq_true (by omega)
                                         have htr' : t' < n3 := by omega
                                         obtain ⟨ad', had, _, k0, _⟩ := at_pair (HLR.out.1.below (HWp.out.1.mono (by omega))) htr'
                                         cases had
                                         have hgx : ll[t']? = some (ll.getD t' ([], [])) := by simp [List.getD, List.getElem?_eq_getElem (show t' < ll.length by have := HLR.out.2.1; omega)]
                                         have HGX : Hid ((ll.map Prod.fst)[t']? = some (ll.getD t' ([], [])).1) := Lib.hid (by rw [List.getElem?_map, hgx]; rfl)
                                         generalize (ll.getD t' ([], [])).1 = x at k0 HGX
                                         have HT := Lib.hid ht'
                                         clear hgx ht' hm0
                                         by_cases hab : lexL x y = true
                                         . obtain ⟨hbl, hbe⟩ := less_no hab
                                           have HR1 : Hid (∀ k x y, k + 1 < m + 1 -> (ll.map Prod.fst)[k]? = some x -> (ll.map Prod.fst)[k + 1]? = some y -> lexL x y = true) := Lib.hid (by
                                             intro k x2 y2 hk h1 h2
                                             rcases Nat.lt_or_eq_of_le (Nat.le_of_lt_succ hk) with h | h
                                             . exact HRI.out k x2 y2 h h1 h2
                                             . have := HT.out
                                               obtain rfl : k = t' := by omega
                                               have hgy := HGY.out
                                               rw [HT.out] at hgy
                                               rw [HGX.out] at h1; rw [hgy] at h2
                                               injection h1 with h1; injection h2 with h2
                                               subst h1; subst h2; exact hab)
                                           clear hab
                                           go_quiet (fail)
                                           have HWq : Hid (Below (b0 + 4) wd (wp.drewN nq) /\ b0 + 4 ≤ (wp.drewN nq).heap.size) := Lib.hid ⟨below_drewN HWp.out.1 nq, HWp.out.2⟩
                                           go_wp2
                                           refine ⟨?_, ?_⟩
                                           . repeat (first | exact ⟨⟨m + 1, by omega, by go_num, HNE2, HR1, HWq⟩, rfl⟩ | exact ⟨m + 1, by omega, by go_num, HNE2, HR1, HWq⟩ | apply Exists.intro)
                                           . simp [intOf]; omega
                                         . have HAB : Hid (lexL x y = false) := Lib.hid (by simpa using hab)
                                           have HP : Hid (w0 i = 1) := Lib.hid (w0_1 HBG.out HVA.out HDA.out HPA.out (.inr (.inl (rises_no (by rw [<- HLR.out.2.2]; exact HGX.out) (by rw [<- HLR.out.2.2, <- HT.out]; exact HGY.out) HAB.out))))
                                           have hly := less_yes HAB.out
                                           clear hab
                                           rcases hly with hbl | ⟨hbl, hbe⟩
                                           . go_quiet (fail)
                                             have HWq : Hid (Below (b0 + 4) wd (wp.drewN nq)) := Lib.hid (below_drewN HWp.out.1 nq)
                                             go_wp2
                                             go_ret
                                             exact ⟨by rw [HP.out]; rfl, HBW.out _ HWq.out⟩
                                           . go_quiet (fail)
                                             have HWq : Hid (Below (b0 + 4) wd (wp.drewN nq)) := Lib.hid (below_drewN HWp.out.1 nq)
                                             go_wp2
                                             go_ret
                                             exact ⟨by rw [HP.out]; rfl, HBW.out _ HWq.out⟩
                                   . obtain rfl : m = n3 := by omega
                                     have HODD : Hid (Odd i ↔ dir ≠ 47 :: cleanB dir) := Lib.hid (by
                                       have h1 : risesL (i.cfg.labels.map Prod.fst) = true := rises_of fun k x y h1 h2 => HRI.out k x y (by have h3 := (List.getElem?_eq_some_iff.1 h2).1; rw [List.length_map, <- HLR.out.2.2] at h3; have := HLR.out.2.1; omega) (by rw [HLR.out.2.2]; exact h1) (by rw [HLR.out.2.2]; exact h2)
                                       have h2 : (i.cfg.labels.map Prod.fst).head? ≠ some [] := head_ne (by
                                         have := HNE.out
                                         rw [<- HLR.out.2.1, List.take_length] at this
                                         rw [<- HLR.out.2.2]; exact this)
                                       unfold Odd
                                       rw [HRP2.out, h1, HD.out.1]
                                       constructor
                                       . rintro (h | h | h | h)
                                         . cases h
                                         . cases h
                                         . exact absurd h h2
                                         . exact h
                                       . intro h; exact .inr (.inr (.inr h)))
                                     obtain ⟨wk, hwk⟩ : ∃ wk, wk = wr := ⟨_, rfl⟩
                                     subst hwk
                                     clear HRI HNE
                                     have xc1 := (HBCd.out.below HW.out.1 (by omega)).cell 1
                                     obtain ⟨cl, hcl⟩ : ∃ cl, cl = cleanB dir := ⟨_, rfl⟩
                                     have hclen : cl.length ≤ 1099511627776 := by
                                       have h1 := join_wt ((pcs dir).foldl stepC [])
                                       have h2 := (fold_len (List.prefix_refl (pcs dir))).2
                                       rw [hcl, clean_is]; omega
                                     have HCA := Lib.hid (fun w => clean_any dir w (by omega))
                                     rw [<- hcl] at HCA HODD
                                     clear hcl
                                     have hno : (9223372036854775807 < 1 + List.length cl) = False := eq_false (by omega)
                                     go_upto_region 60 with fail
                                     have hSx : wk.cell? ⟨b0 + 1, 1, none⟩ = some (.string ⟨dir.toArray⟩) := xc1
                                     refine wp_region_held_drew (S := (fun wy => wy.cell? ⟨b0 + 1, 1, none⟩ = some (.string ⟨dir.toArray⟩))) (by kernel_rfl) hSx (fun hHeld => ?_)
                                     refine tk 0 (h := ?_)
                                     try simp only [Act.put, List.setIfInBounds_toArray, List.set_cons_zero, List.set_cons_succ]
                                     refine tk 1 (h := ?_)
                                     try simp only [Act.put, List.setIfInBounds_toArray, List.set_cons_zero, List.set_cons_succ]
                                     refine tk 2 (h := ?_)
                                     try simp only [Act.put, List.setIfInBounds_toArray, List.set_cons_zero, List.set_cons_succ]
                                     refine tk 3 (h := ?_)
                                     try simp only [Act.put, List.setIfInBounds_toArray, List.set_cons_zero, List.set_cons_succ]
                                     refine wpAnyH_ready (rs := [4]) (by kernel_rfl) (by simp) ?_
                                     refine rdy (fun K hK => ?_) AllReadyH.nil
                                     rw [if_pos (by rfl)]
                                     go_simp
                                     refine (HCA.out _).mono ?_
                                     rintro y w5 ⟨rfl, hb5⟩
                                     have hb5 : Below wk.heap.size wk w5 := ((Below.refl wk.heap.size wk).drew).trans hb5
                                     have HW5 : Hid (Below (b0 + 4) wd w5) := Lib.hid (HW.out.1.trans (hb5.mono HW.out.2))
                                     have hS5 : w5.cell? ⟨b0 + 1, 1, none⟩ = some (.string ⟨dir.toArray⟩) := (HBCd.out.below HW5.out (by omega)).cell 1
                                     refine hK.out _ _ hS5 (fun _ => ?_)
                                     clear hK hb5 hHeld hSx xc1
                                     try simp only [Act.put, List.setIfInBounds_toArray, List.set_cons_zero, List.set_cons_succ]
                                     refine tk 5 (h := ?_)
                                     try simp only [Act.put, List.setIfInBounds_toArray, List.set_cons_zero, List.set_cons_succ]
                                     have hcat : (⟨#[47]⟩ ++ ⟨cl.toArray⟩ : ByteArray) = ⟨(47 :: cl : B).toArray⟩ := by apply ByteArray.ext; simp [ByteArray.data_append]
                                     have htl : (⟨#[47]⟩ ++ ⟨cl.toArray⟩ : ByteArray).toList = 47 :: cl := by rw [hcat]; simp
                                     clear hcat
                                     by_cases hdq : dir = 47 :: cl
                                     . have hneq : (dir == (⟨#[47]⟩ ++ ⟨cl.toArray⟩ : ByteArray).toList) = true := by rw [htl]; simpa using hdq
                                       have HP : Hid (w0 i = 0) := Lib.hid (w0_0 HBG.out HVA.out HDA.out HPA.out (fun h => HODD.out.1 h hdq))
                                       clear hdq htl
                                       refine wpAnyH_ready (rs := [6]) (by kernel_rfl) (by simp) ?_
                                       refine rdy (fun K hK => ?_) AllReadyH.nil
                                       rw [if_pos (by rfl)]
                                       go_simp
                                       refine hK.out _ _ hS5 (fun _ => ?_)
                                       clear hK hS5
                                       try simp only [Act.put, List.setIfInBounds_toArray, List.set_cons_zero, List.set_cons_succ]
                                       refine wpAnyH_done (by kernel_rfl) ?_ _
                                       go_wp2_with fail
                                       go_ret
                                       exact ⟨by rw [HP.out]; rfl, HBW.out _ HW5.out⟩
                                     . have hneq : (dir == (⟨#[47]⟩ ++ ⟨cl.toArray⟩ : ByteArray).toList) = false := by rw [htl]; simpa using hdq
                                       have HP : Hid (w0 i = 1) := Lib.hid (w0_1 HBG.out HVA.out HDA.out HPA.out (HODD.out.2 hdq))
                                       clear hdq htl
                                       refine wpAnyH_ready (rs := [6]) (by kernel_rfl) (by simp) ?_
                                       refine rdy (fun K hK => ?_) AllReadyH.nil
                                       rw [if_pos (by rfl)]
                                       go_simp
                                       refine hK.out _ _ hS5 (fun _ => ?_)
                                       clear hK hS5
                                       try simp only [Act.put, List.setIfInBounds_toArray, List.set_cons_zero, List.set_cons_succ]
                                       refine wpAnyH_done (by kernel_rfl) ?_ _
                                       go_wp2_with fail
                                       go_ret
                                       exact ⟨by rw [HP.out]; rfl, HBW.out _ HW5.out⟩
end Js.Cf
end Go.Proofs.YtjohdaobhonioaaGreatDoor
