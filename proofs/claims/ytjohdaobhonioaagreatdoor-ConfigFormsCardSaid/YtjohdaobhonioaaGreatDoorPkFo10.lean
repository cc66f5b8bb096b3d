/-
  Parts of the proof: JsWx.
-/
import Derived.Test.YtjohdaobhonioaaGreatDoorPkFo8
import Derived.Test.YtjohdaobhonioaaGreatDoorPkFo9
import Derived.WalkSpells
import Derived.Test.YtjohdaobhonioaaGreatDoorPkFo2
import Derived.Test.YtjohdaobhonioaaGreatDoorPkFo0
namespace Go.Proofs.YtjohdaobhonioaaGreatDoor
open Go.RowKit
namespace Js
def jcells (h : Hd) (iv kv : Value) : List Value := [.int .i64 h.kind, .int .i64 h.num, .string ⟨h.text.toArray⟩, iv, kv]
def encJ : Enc where
 sz := 5
 nilk := false
 V := jcells
 len _ _ _ := rfl
 one h A n c A' n' c' x hx := by simp [jcells] at hx; rcases hx with rfl | rfl | rfl | rfl | rfl <;> rfl
theorem infoJson : (Tryz.prog.info? 54).map (fun i => (i.zero, i.size, i.bytes)) = some (some (.agg #[.int .i64 0, .int .i64 0, .string .empty, .slice none 0 0, .slice none 0 0]), 5, 80) := by kernel_rfl
def VPost (h : Hd) (k : F) (w : World) (x : Ending) (w' : World) : Prop :=
 ∃ iv kv bs, x = .returned (.agg #[.int .i64 h.kind, .int .i64 h.num, .string ⟨h.text.toArray⟩, iv, kv]) /\ OT encJ w' w.heap.size 54 9 (.cons h k .nil) (jcells h iv kv) bs /\ bs.Nodup /\ Below w.heap.size w w'
theorem ot_atom (h : Hd) (hk : h.keys = []) (w : World) (B : Nat) : OT encJ w B 54 9 (.cons h .nil .nil) (jcells h (.slice none 0 0) (.slice none 0 0)) [] :=
 ⟨.slice none 0 0, .slice none 0 0, [], [], [], [], by simp [encJ], by simp [F.len], by simp [hk], World.ownsRow_nil _ _ _ _, ⟨rfl, rfl⟩, by rw [hk]; exact World.ownsRow_nil _ _ _ _, ⟨rfl, rfl⟩, rfl⟩
theorem OL.push {E : Enc} {w w' : World} {B : Nat} {eI eK : TypeId} {v v' : Value} {f g : F} {xs cs : List Value} {bs bs' : List Nat} (ht : OT E w B eI eK f xs bs) (hg : OT E w B eI eK g cs bs') (hn : (ob v ++ (bs ++ bs')).Nodup)
   (ho' : w'.ownsRow B eI E.sz v' (f.len + g.len) (xs ++ cs)) (hgr : w.grownBy w' v.ownBlock) (hl : v'.ownBlock = v.ownBlock ∨ v'.ownBlock = some w.heap.size) : OL E w' B eI eK v' (f.app g) (bs ++ bs') := by
 have hlt : ∀ b ∈ bs ++ bs', B ≤ b /\ b < w.heap.size := fun b hb => by
   rcases List.mem_append.1 hb with h | h
   . exact ht.lt b h
   . exact hg.lt b h
 have hne : ∀ b ∈ bs ++ bs', v.ownBlock ≠ some b := fun b hb e => by
   rw [List.nodup_append] at hn
   exact hn.2.2 b (by simp [ob, e]) b hb rfl
 have hk : ∀ b ∈ bs ++ bs', w'.heap[b]? = w.heap[b]? := fun b hb => hgr.block b (hlt b hb).2 (fun e => hne b hb e.symm)
 refine ⟨xs ++ cs, by rw [F.len_app]; exact ho', (ht.app hg).kept hk, ?_⟩
 rw [List.nodup_append] at hn ⊢
 refine ⟨?_, hn.2.1, fun a ha b hb e => ?_⟩
 . unfold ob; cases v'.ownBlock <;> simp
 . subst e
   rcases hl with h | h
   . exact hn.2.2 a (by simpa [ob, h] using ha) a hb rfl
   . have : a = w.heap.size := by simpa [ob, h] using ha
     have := hlt a hb; omega
abbrev st5 (w : World) (b : Nat) (a0 a1 a2 a3 a4 : Value) : World := (((((w.setCell ⟨b, 0, none⟩ a0).setCell ⟨b, 1, none⟩ a1).setCell ⟨b, 2, none⟩ a2).setCell ⟨b, 3, none⟩ a3).setCell ⟨b, 4, none⟩ a4)
section
variable {w : World} {b : Nat} {a0 a1 a2 a3 a4 z0 z1 z2 z3 z4 : Value} {T : TypeId}
theorem blk_set5 (h : Blk w b T #[z0, z1, z2, z3, z4]) : Blk (st5 w b a0 a1 a2 a3 a4) b T #[a0, a1, a2, a3, a4] := by
 have := ((((h.set_ 0 a0).set_ 1 a1).set_ 2 a2).set_ 3 a3).set_ 4 a4
 exact this
theorem blk_far5 {g : Nat} {t : TypeId} {cs : Array Value} (h : Blk w g t cs) (hg : g ≠ b) : Blk (st5 w b a0 a1 a2 a3 a4) g t cs :=
 ((((h.far (p := ⟨b, 0, none⟩) hg _).far (p := ⟨b, 1, none⟩) hg _).far (p := ⟨b, 2, none⟩) hg _).far (p := ⟨b, 3, none⟩) hg _).far (p := ⟨b, 4, none⟩) hg _
theorem heap_set5 (k : Nat) (hk : k ≠ b) : (st5 w b a0 a1 a2 a3 a4).heap[k]? = w.heap[k]? := by
 rw [Below.heap_setCell _ ⟨b, 4, none⟩ _ k hk, Below.heap_setCell _ ⟨b, 3, none⟩ _ k hk, Below.heap_setCell _ ⟨b, 2, none⟩ _ k hk, Below.heap_setCell _ ⟨b, 1, none⟩ _ k hk, Below.heap_setCell _ ⟨b, 0, none⟩ _ k hk]
theorem below_set5 {B : Nat} {a : World} (h : Below B a w) (hb : B ≤ b) : Below B a (st5 w b a0 a1 a2 a3 a4) :=
 ((((h.setCell (p := ⟨b, 0, none⟩) hb _).setCell (p := ⟨b, 1, none⟩) hb _).setCell (p := ⟨b, 2, none⟩) hb _).setCell (p := ⟨b, 3, none⟩) hb _).setCell (p := ⟨b, 4, none⟩) hb _
theorem OL.set5 {E : Enc} {B : Nat} {eI eK : TypeId} {v : Value} {f : F} {bs : List Nat} (h : OL E w B eI eK v f bs) (hb : b < B) : OL E (st5 w b a0 a1 a2 a3 a4) B eI eK v f bs :=
 h.kept fun k h1 _ => heap_set5 k (by omega)
end
theorem OL.list {w : World} {B : Nat} {v : Value} {k : F} {bs : List Nat} (h : OL encJ w B 54 9 v k bs) (hl : k.len ≤ 4398046511104) :
  OT encJ w B 54 9 (.cons (plainH 5) k .nil) (jcells (plainH 5) v (.slice none 0 0)) (ob v ++ bs) /\ (ob v ++ bs).Nodup := by
 obtain ⟨vs, ho, ht, hn⟩ := h
 exact ⟨⟨v, .slice none 0 0, vs, [], bs, [], by simp [encJ], hl, by simp [plainH], ho, ht, World.ownsRow_nil _ _ _ _, ⟨rfl, rfl⟩, by simp [ob, Value.ownBlock]⟩, hn⟩
theorem OL.obj {w : World} {B B' : Nat} {v kv : Value} {k : F} {ks : List (List UInt8)} {bs : List Nat} (h : OL encJ w B 54 9 v k bs) (hl : k.len ≤ 4398046511104) (hkl : ks.length ≤ 4398046511104) (hk : w.ownsRow B' 9 1 kv ks.length (tx ks)) (hB : B ≤ B') (hlt : ∀ b ∈ ob v ++ bs, b < B') :
   OT encJ w B 54 9 (.cons ⟨6, 0, [], ks⟩ k .nil) (jcells ⟨6, 0, [], ks⟩ v kv) (ob v ++ (bs ++ ob kv)) /\ (ob v ++ (bs ++ ob kv)).Nodup := by
 obtain ⟨vs, ho, ht, hn⟩ := h
 refine ⟨⟨v, kv, vs, [], bs, [], by simp [encJ], hl, hkl, ho, ht, own_less hk hB, ⟨rfl, rfl⟩, by simp⟩, ?_⟩
 rw [<- List.append_assoc, List.nodup_append]
 refine ⟨hn, ?_, fun a ha b hb e => ?_⟩
 . unfold ob; cases kv.ownBlock <;> simp
 . subst e
   have := hlt a ha
   have := (ob_lt hk hb).1
   omega
set_option maxHeartbeats 2000000 in
theorem plain_value (k : Int) (w : World) : Calls Tryz.prog 321 #[.int .i64 k] w (VPost (plainH k) .nil w) := by
 go_enter Tryz.func321, Tryz.ntmps321
 go_wp2
 exact bodyPost_ret (results_row rfl _ _ w.heap.size 54 _ (0, 0) _ rfl (heap_alloc_new w _) Tryz.underlying54 rfl (by kernel_rfl)) rfl ⟨_, _, [], rfl, ot_atom _ rfl _ _, List.nodup_nil, (Below.refl _ _).alloc (Nat.le_refl _) _⟩
theorem number_value (z : Int) (w : World) : Calls Tryz.prog 323 #[.int .i64 z] w (VPost ⟨3, z, [], []⟩ .nil w) := by
 go_enter Tryz.func323, Tryz.ntmps323
 go_wp2
 exact bodyPost_ret (results_row rfl _ _ w.heap.size 54 _ (0, 0) _ rfl (heap_alloc_new w _) Tryz.underlying54 rfl (by kernel_rfl)) rfl ⟨_, _, [], rfl, ot_atom _ rfl _ _, List.nodup_nil, (Below.refl _ _).alloc (Nat.le_refl _) _⟩
theorem text_value (t : List UInt8) (w : World) : Calls Tryz.prog 322 #[.string ⟨t.toArray⟩] w (VPost ⟨4, 0, t, []⟩ .nil w) := by
 go_enter Tryz.func322, Tryz.ntmps322
 go_wp2
 exact bodyPost_ret (results_row rfl _ _ w.heap.size 54 _ (0, 0) _ rfl (heap_alloc_new w _) Tryz.underlying54 rfl (by kernel_rfl)) rfl ⟨_, _, [], rfl, ot_atom _ rfl _ _, List.nodup_nil, (Below.refl _ _).alloc (Nat.le_refl _) _⟩
def VlPost (f : F) (w : World) (x : Ending) (w' : World) : Prop := ∃ v bs, x = .returned v /\ OL encJ w' w.heap.size 54 9 v f bs /\ Below w.heap.size w w'
def ValsC (n : Nat) : Prop := ∀ (f : F) (A : Option Addr) (c : Nat) (us : List Value) (S : Nat -> Prop) (w : World), f.sz ≤ n -> trim f = f -> f.len ≤ 4398046511104 -> RdS w S 1 A f.len us -> TR (encN true) w S f us -> (∀ b, S b -> b < w.heap.size) ->
 Calls Tryz.prog 328 #[.slice A f.len c] w (VlPost f w)
set_option maxHeartbeats 2000000 in
theorem list_value (n : Nat) (hV : ValsC n) (k : F) (A : Option Addr) (c : Nat) (us : List Value) (S : Nat -> Prop) (w : World) (hk : k.sz ≤ n) (ht : trim k = k) (hl : k.len ≤ 4398046511104) (hr : RdS w S 1 A k.len us) (htr : TR (encN true) w S k us) (hS : ∀ b, S b -> b < w.heap.size) :
  Calls Tryz.prog 327 #[.slice A k.len c] w (VPost (plainH 5) k w) := by
 obtain ⟨wz, hwz⟩ : ∃ wz, wz = w.alloc (.cells #[.int .i64 0, .int .i64 0, .string ⟨#[]⟩, .slice none 0 0, .slice none 0 0] 54) := ⟨_, rfl⟩
 have HC := Lib.hid (hV k A c us S wz hk ht hl (hr.kept fun p hp => by rw [hwz]; exact World.cell?_alloc_lt _ _ _ (hS _ hp)) (htr.kept fun p hp => by rw [hwz]; exact World.cell?_alloc_lt _ _ _ (hS _ hp)) (fun b hb => by rw [hwz]; have := hS b hb; simp; omega))
 have HB : Hid (Blk wz w.heap.size 54 #[.int .i64 0, .int .i64 0, .string ⟨#[]⟩, .slice none 0 0, .slice none 0 0]) := Lib.hid (by rw [hwz]; exact Blk.new _ _ _)
 have HZ : Hid (Below w.heap.size w wz /\ w.heap.size < wz.heap.size) := Lib.hid (by rw [hwz]; exact ⟨(Below.refl _ _).alloc (Nat.le_refl _) _, by simp⟩)
 have HL := Lib.hid hl
 clear hV hr htr hS hl
 go_enter Tryz.func327, Tryz.ntmps327
 go_wp2_with fail
 rw [<- hwz]
 clear hwz
 refine HC.out.mono ?_
 rintro x w1 ⟨v, bs, rfl, hol, hb1⟩
 obtain ⟨A1, c1, rfl⟩ := hol.form
 have HO := Lib.hid hol
 have HB1 := Lib.hid (HB.out.below hb1 HB.out.lt)
 have HZ1 := Lib.hid (HZ.out.1.trans (hb1.mono HZ.out.1.size))
 clear hol hb1 HB
 have f0 := HB1.out.frozen 0
 have f1 := HB1.out.frozen 1
 have f2 := HB1.out.frozen 2
 have f3 := HB1.out.frozen 3
 have f4 := HB1.out.frozen 4
 have c0 := HB1.out.cell 0
 have c1' := HB1.out.cell 1
 have c2 := HB1.out.cell 2
 have c3 := HB1.out.cell 3
 have c4 := HB1.out.cell 4
 go_wp2
 have hol5 := (HO.out.set5 (a0 := .int .i64 5) (a1 := .int .i64 0) (a2 := .string ⟨#[]⟩) (a3 := .slice A1 k.len c1) (a4 := .slice none 0 0) HZ.out.2)
 obtain ⟨ht5, hn5⟩ := (hol5.less (B' := w.heap.size) (by have := HZ.out.2; omega)).list HL.out
 exact bodyPost_ret (results_row rfl _ _ w.heap.size 54 _ (0, 0) _ rfl (blk_set5 HB1.out) Tryz.underlying54 rfl (by kernel_rfl)) rfl ⟨_, _, _, rfl, ht5, hn5, below_set5 HZ1.out (Nat.le_refl _)⟩
set_option maxHeartbeats 2000000 in
set_option maxRecDepth 100000 in
theorem clone_any (A : Option Addr) (n c : Nat) (l : List (List UInt8)) (w : World) (hr : Reads w w.heap.size 1 A n (tx l)) (hn : n ≤ 4398046511104) (hz : n = 0 -> A = none /\ c = 0) :
   Calls Tryz.prog 330 #[.slice A n c] w fun x w' => ∃ v, x = .returned v /\ w'.ownsRow w.heap.size 9 1 v n (tx l) /\ Below w.heap.size w w' := by
 obtain ⟨i0, hi, hz0, hz1, hz2⟩ := info_parts infoStr
 by_cases h0 : n = 0
 . obtain ⟨rfl, rfl⟩ := hz h0
   subst h0
   have hl : l = [] := by have := hr.1; rw [tx_length] at this; exact List.eq_nil_of_length_eq_zero (by omega)
   subst hl
   have he := fun wx => Lib.run_eql_slice_nil (P := Tryz.prog) wx 23 9 none 0 0 0 0 Tryz.underlying23
   clear hr hz
   go_enter Tryz.func330, Tryz.ntmps330
   go_wp2
   go_ret
   exact ⟨_, rfl, World.ownsRow_nil _ _ _ _, Below.refl _ _⟩
 . obtain ⟨ad, rfl, _⟩ := hr.2 (by omega)
   have he := fun wx => Lib.run_eql_slice_nil (P := Tryz.prog) wx 23 9 (some ad) n c 0 0 Tryz.underlying23
   have HR := Lib.hid hr
   clear hr hz
   go_enter Tryz.func330, Tryz.ntmps330
   go_wp2_with (at_builtin; refine wpList_append_any _ rfl _ _ 23 rfl w.heap.size 9 i0 (.string .empty) 1 16 Tryz.underlying23 hi hz0 hz1 hz2 rfl (by decide) _ 0 [] rfl ⟨rfl, .inr ⟨w.heap.size, 0, _, rfl, Nat.le_refl _, heap_alloc_new w _, Nat.le_refl _, by unfold maxLen; omega, rfl, rfl⟩⟩ w.heap.size (some ad) n c (tx l) rfl (HR.out.alloc (Nat.le_refl _) _) (by simp [tx, Value.oneCell']) (by unfold maxLen; omega) (by omega) (by simp) ?_)
   intro v' w' h1 h2 h3
   go_wp2
   go_ret
   exact ⟨_, rfl, by simpa using h1, Below.grown ((Below.refl _ _).alloc (Nat.le_refl _) _) h2 (by simp) (fun k hk => by simp [Value.ownBlock] at hk; omega)⟩
set_option maxHeartbeats 4000000 in
set_option maxRecDepth 100000 in
theorem object_value (n : Nat) (hV : ValsC n) (k : F) (ks : List (List UInt8)) (A A' : Option Addr) (c c' : Nat) (us : List Value) (S : Nat -> Prop) (w : World) (hk : k.sz ≤ n) (ht : trim k = k) (hl : k.len ≤ 4398046511104) (hr : RdS w S 1 A k.len us) (htr : TR (encN true) w S k us) (hS : ∀ b, S b -> b < w.heap.size)
  (m : Nat) (hm : m = ks.length) (hkl : m ≤ 4398046511104) (hkr : RdS w S 1 A' m (tx ks)) (hkn : ks = [] -> A' = none /\ c' = 0) :
  Calls Tryz.prog 329 #[.agg #[.slice A' m c', .slice A k.len c]] w (VPost ⟨6, 0, [], ks⟩ k w) := by
 obtain ⟨wz, hwz⟩ : ∃ wz, wz = ((w.alloc (.cells #[.slice A' m c', .slice A k.len c] 329)).alloc (.cells #[.int .i64 0, .int .i64 0, .string ⟨#[]⟩, .slice none 0 0, .slice none 0 0] 54)).drew := ⟨_, rfl⟩
 have hc : ∀ p : Addr, S p.block -> wz.cell? p = w.cell? p := fun p hp => by
  rw [hwz]
  have := hS _ hp
  exact (World.cell?_alloc_lt (w.alloc (.cells #[.slice A' m c', .slice A k.len c] 329)) _ _ (by simp; omega)).trans (World.cell?_alloc_lt _ _ _ this)
 have hs2 : ∀ b, S b -> b < wz.heap.size := fun b hb => by rw [hwz]; have := hS b hb; simp; omega
 have HV := Lib.hid (hV k A c us S wz hk ht hl (hr.kept hc) (htr.kept hc) hs2)
 have HRK := Lib.hid ((hkr.kept hc).reads hs2)
 have HCL : Hid (∀ wx, Reads wx wx.heap.size 1 A' m (tx ks) -> Calls Tryz.prog 330 #[.slice A' m c'] wx fun x w' => ∃ v, x = .returned v /\ w'.ownsRow wx.heap.size 9 1 v m (tx ks) /\ Below wx.heap.size wx w') :=
  Lib.hid fun wx h => clone_any A' m c' ks wx h hkl (fun h0 => hkn (List.eq_nil_of_length_eq_zero (by omega)))
 obtain ⟨gb, hgb⟩ : ∃ gb, gb = w.heap.size := ⟨_, rfl⟩
 have HG : Hid (Blk wz gb 329 #[.slice A' m c', .slice A k.len c]) := Lib.hid (by rw [hwz, hgb]; exact Blk.alloc (Blk.new _ _ _) _)
 have HB : Hid (Blk wz (gb + 1) 54 #[.int .i64 0, .int .i64 0, .string ⟨#[]⟩, .slice none 0 0, .slice none 0 0]) := Lib.hid (by
  have := Blk.new (w.alloc (.cells #[.slice A' m c', .slice A k.len c] 329)) 54 #[.int .i64 0, .int .i64 0, .string ⟨#[]⟩, .slice none 0 0, .slice none 0 0]
  have h2 : Blk ((w.alloc (.cells #[.slice A' m c', .slice A k.len c] 329)).alloc (.cells #[.int .i64 0, .int .i64 0, .string ⟨#[]⟩, .slice none 0 0, .slice none 0 0] 54)) (w.heap.size + 1) 54 #[.int .i64 0, .int .i64 0, .string ⟨#[]⟩, .slice none 0 0, .slice none 0 0] := by simpa using this
  rw [hwz, hgb]; exact h2)
 have HZ : Hid (Below w.heap.size w wz) := Lib.hid (by rw [hwz]; exact (((Below.refl _ _).alloc (Nat.le_refl _) _).alloc (by simp) _).drew)
 have HSZ : Hid (gb + 1 < wz.heap.size) := Lib.hid (by rw [hwz, hgb]; simp)
 have HGE : Hid (gb ≠ gb + 1) := Lib.hid (by omega)
 have HGW : Hid (gb = w.heap.size) := Lib.hid hgb
 have HM : Hid (m = ks.length) := Lib.hid hm
 have HWZ := Lib.hid hwz
 have HL := Lib.hid hl
 have HKL := Lib.hid hkl
 clear hV hr htr hS hkr hkn hc hs2 hl hkl hm hwz hgb
 go_enter Tryz.func329, Tryz.ntmps329
 go_wp2_with fail
 refine wp_region_held_drew (S := (fun wy => wy.cell? ⟨gb, 0, none⟩ = some (.slice A' m c') /\ wy.cell? ⟨gb, 1, none⟩ = some (.slice A k.len c))) (by kernel_rfl) (by rw [<- HWZ.out]; exact ⟨HG.out.cell 0, HG.out.cell 1⟩) (fun hHeld => ?_)
 rw [<- HWZ.out] at hHeld ⊢
 rw [<- HGW.out]
 refine tk 0 (h := ?_)
 try simp only [Act.put, List.setIfInBounds_toArray, List.set_cons_zero, List.set_cons_succ]
 refine tk 3 (h := ?_)
 try simp only [Act.put, List.setIfInBounds_toArray, List.set_cons_zero, List.set_cons_succ]
 refine tk 1 (h := ?_)
 try simp only [Act.put, List.setIfInBounds_toArray, List.set_cons_zero, List.set_cons_succ]
 refine tk 4 (h := ?_)
 try simp only [Act.put, List.setIfInBounds_toArray, List.set_cons_zero, List.set_cons_succ]
 refine wpAnyH_ready (rs := [2]) (by kernel_rfl) (by simp) ?_
 refine rdy (fun K hK => ?_) AllReadyH.nil
 rw [if_pos (by rfl)]
 go_simp
 refine HV.out.mono ?_
 rintro x w1 ⟨v, bs, rfl, hol, hb1⟩
 obtain ⟨A1, c1, rfl⟩ := hol.form
 have HO := Lib.hid hol
 have HB1 := Lib.hid (HB.out.below hb1 HB.out.lt)
 have HG1 := Lib.hid (HG.out.below hb1 HG.out.lt)
 have HZ1 := Lib.hid (HZ.out.trans (hb1.mono HZ.out.size))
 have HRK1 := Lib.hid ((HRK.out.below hb1).more hb1.size)
 have hz1 := hb1.size
 refine hK.out _ _ ⟨HG1.out.cell 0, HG1.out.cell 1⟩ (fun _ => ?_)
 clear hK hol hb1 HB HG HZ HRK
 try simp only [Act.put, List.setIfInBounds_toArray, List.set_cons_zero, List.set_cons_succ]
 refine wpAnyH_ready (rs := [5]) (by kernel_rfl) (by simp) ?_
 refine rdy (fun K hK => ?_) AllReadyH.nil
 rw [if_pos (by rfl)]
 go_simp
 refine (HCL.out _ HRK1.out).mono ?_
 rintro x w2 ⟨kv, rfl, hkv, hb2⟩
 obtain ⟨A2, c2, rfl, _⟩ := own_readsN hkv
 have HKV := Lib.hid hkv
 have HO2 := Lib.hid (HO.out.below hb2)
 have HB2 := Lib.hid (HB1.out.below hb2 HB1.out.lt)
 have HG2 := Lib.hid (HG1.out.below hb2 HG1.out.lt)
 have HZ2 := Lib.hid (HZ1.out.trans (hb2.mono HZ1.out.size))
 have HLT : Hid (∀ b ∈ ob (.slice A1 k.len c1) ++ bs, b < w1.heap.size) := Lib.hid (fun b hb => by
  obtain ⟨vs, ho, ht, _⟩ := HO.out
  rcases List.mem_append.1 hb with h | h
  . exact (ob_lt ho h).2
  . exact (ht.lt b h).2)
 refine hK.out _ _ ⟨HG2.out.cell 0, HG2.out.cell 1⟩ (fun _ => ?_)
 clear hK hkv hb2 HO HB1 HG1 HZ1 HRK1
 have f0 := HB2.out.frozen 0
 have f1 := HB2.out.frozen 1
 have f2 := HB2.out.frozen 2
 have f3 := HB2.out.frozen 3
 have f4 := HB2.out.frozen 4
 have c0' := HB2.out.cell 0
 have c1' := HB2.out.cell 1
 have c2' := HB2.out.cell 2
 have c3' := HB2.out.cell 3
 have c4' := HB2.out.cell 4
 try simp only [Act.put, List.setIfInBounds_toArray, List.set_cons_zero, List.set_cons_succ]
 refine tk 6 (h := ?_)
 try simp only [Act.put, List.setIfInBounds_toArray, List.set_cons_zero, List.set_cons_succ]
 refine wpAnyH_ready (rs := [7]) (by kernel_rfl) (by simp) ?_
 refine rdy (fun K hK => ?_) AllReadyH.nil
 rw [if_pos (by rfl)]
 go_simp
 refine hK.out _ _ ⟨(blk_far5 HG2.out HGE.out).cell 0, (blk_far5 HG2.out HGE.out).cell 1⟩ (fun _ => ?_)
 clear hK f0 f1 f2 f3 f4 c0' c1' c2' c3' c4'
 try simp only [Act.put, List.setIfInBounds_toArray, List.set_cons_zero, List.set_cons_succ]
 refine wpAnyH_done (by kernel_rfl) ?_ _
 go_wp2
 obtain rfl := HM.out
 have hzz := HZ2.out.size
 have hgw := HGW.out
 have hsz := HSZ.out
 have hol5 := (HO2.out.set5 (a0 := .int .i64 6) (a1 := .int .i64 0) (a2 := .string ⟨#[]⟩) (a3 := .slice A1 k.len c1) (a4 := .slice A2 ks.length c2) HSZ.out)
 have hkv5 := own_at (w' := st5 w2 (gb + 1) (.int .i64 6) (.int .i64 0) (.string ⟨#[]⟩) (.slice A1 k.len c1) (.slice A2 ks.length c2)) HKV.out (fun b hb => heap_set5 b (by have := (own_lt HKV.out hb).1; omega))
 obtain ⟨ht5, hn5⟩ := (hol5.less (B' := w.heap.size) (by omega)).obj HL.out HKL.out hkv5 (by omega) HLT.out
 exact bodyPost_ret (results_row rfl _ _ (gb + 1) 54 _ (0, 0) _ rfl (blk_set5 HB2.out) Tryz.underlying54 rfl (by kernel_rfl)) rfl ⟨_, _, _, rfl, ht5, hn5, below_set5 HZ2.out (by omega)⟩
theorem node_cases {w : World} {S : Nat -> Prop} {h : Hd} {k : F} {u : Value} (hv : TV (encN true) w S h k [u]) (h1 : trimH h = h) (h2 : trimK h k = k) :
   (∃ z : Int, u = .iface 211 (.int .i64 z) /\ h = plainH z /\ k = .nil) ∨ (∃ z : Int, u = .iface 219 (.int .i64 z) /\ h = ⟨3, z, [], []⟩ /\ k = .nil) ∨ (∃ t : List UInt8, u = .iface 212 (.string ⟨t.toArray⟩) /\ h = ⟨4, 0, t, []⟩ /\ k = .nil) ∨
   (∃ A c us, u = .iface 327 (.slice A k.len c) /\ h = plainH 5 /\ trim k = k /\ k.len ≤ 4398046511104 /\ RdS w S 1 A k.len us /\ TR (encN true) w S k us) ∨
   (∃ A c us A' c' ks, u = .iface 329 (.agg #[.slice A' ks.length c', .slice A k.len c]) /\ h = ⟨6, 0, [], ks⟩ /\ trim k = k /\ k.len ≤ 4398046511104 /\ ks.length ≤ 4398046511104 /\ (ks = [] -> A' = none /\ c' = 0) /\ RdS w S 1 A k.len us /\ TR (encN true) w S k us /\ RdS w S 1 A' ks.length (tx ks)) := by
 obtain ⟨A, c, A', c', us, e, l1, ⟨l2, l3⟩, r1, r2, r3⟩ := hv
 simp only [encN, List.cons.injEq, and_true] at e
 obtain ⟨kd, num, text, keys⟩ := h
 unfold trimK at h2
 unfold nodeV at e
 simp only at e h2
 by_cases k3 : kd = 3
 . subst k3
   have h1' : (⟨3, num, [], []⟩ : Hd) = ⟨3, num, text, keys⟩ := h1
   exact .inr (.inl ⟨num, by simpa using e, h1'.symm, h2.symm⟩)
 by_cases k4 : kd = 4
 . subst k4
   have h1' : (⟨4, 0, text, []⟩ : Hd) = ⟨4, num, text, keys⟩ := h1
   exact .inr (.inr (.inl ⟨text, by simpa using e, h1'.symm, h2.symm⟩))
 by_cases k5 : kd = 5
 . subst k5
   have h1' : plainH 5 = ⟨5, num, text, keys⟩ := h1
   exact .inr (.inr (.inr (.inl ⟨A, c, us, by simpa using e, h1'.symm, h2, l1, r1, r2⟩)))
 by_cases k6 : kd = 6
 . subst k6
   have h1' : (⟨6, 0, [], keys⟩ : Hd) = ⟨6, num, text, keys⟩ := h1
   exact .inr (.inr (.inr (.inr ⟨A, c, us, A', c', keys, by simpa using e, h1'.symm, h2, l1, l2, l3 rfl, r1, r2, r3⟩)))
 . rw [if_neg k3, if_neg k4, if_neg k5, if_neg k6] at e
   have h1' : plainH kd = ⟨kd, num, text, keys⟩ := by
    have h3 := h1
    unfold trimH at h3
    rw [if_neg k3, if_neg k4, if_neg k6] at h3
    exact h3
   exact .inl ⟨kd, e, h1'.symm, by rw [if_neg (by omega)] at h2; exact h2.symm⟩
end Js
end Go.Proofs.YtjohdaobhonioaaGreatDoor
namespace Go.Proofs.YtjohdaobhonioaaGreatDoor
namespace Js
theorem atom_nil {s : List UInt8} {h : Hd} {k : F} {r : List UInt8} (hx : atom s = some (.ok h k r)) : k = .nil := (atom_trim hx).2.1
def szOf : Kd -> F -> Nat
 | .val, f => f.sz + 1
 | _, f => f.sz
theorem rd_sz : ∀ (n : Nat) (kd : Kd) (d : Nat) (s : List UInt8) (h : Hd) (f : F) (r : List UInt8), rd n kd d s = .ok h f r -> szOf kd f + r.length ≤ s.length := by
 intro n
 induction n with
 | zero => intro kd d s h f r hx; simp [rd] at hx
 | succ n ih =>
  intro kd d s h f r hx
  cases kd with
  | val =>
   have hb := bl_len s
   unfold rd at hx
   split at hx
   . cases hx
   . rename_i c t hc
     rw [hc] at hb
     simp only [List.length_cons] at hb
     split at hx
     . cases hx
     . split at hx
       . rename_i o ho
         subst hx
         have h1 := atom_len ho
         have h2 := atom_nil ho
         subst h2
         simp only [List.length_cons] at h1
         simp only [szOf, F.sz]; omega
       . split at hx
         . split at hx
           . rename_i q hq
             have h1 := opn_len hq
             injection hx with _ h2 hx; subst hx h2
             simp only [szOf, F.sz]; omega
           . have h1 := ih _ _ _ _ _ _ hx
             simp only [szOf] at h1 ⊢; omega
         . split at hx
           . rename_i q hq
             have h1 := opn_len hq
             injection hx with _ h2 hx; subst hx h2
             simp only [szOf, F.sz]; omega
           . have h1 := ih _ _ _ _ _ _ hx
             simp only [szOf] at h1 ⊢; omega
  | items =>
   unfold rd at hx
   split at hx
   . cases hx
   . rename_i h1 k1 r1 he
     have h2 := ih _ _ _ _ _ _ he
     simp only [szOf] at h2
     split at hx
     . cases hx
     . rename_i q hq
       have h3 := nx_len (.inl hq)
       injection hx with _ h4 hx; subst hx h4
       simp only [szOf, F.sz]; omega
     . rename_i q hq
       have h3 := nx_len (.inr hq)
       cases hr : rd n .items d q with
       | err no q2 => rw [hr] at hx; cases hx
       | ok h4 k4 r4 =>
         rw [hr] at hx
         injection hx with _ h5 hx; subst hx h5
         have h6 := ih _ _ _ _ _ _ hr
         simp only [szOf, F.sz] at h6 ⊢; omega
  | mems ks =>
   unfold rd at hx
   split at hx
   . cases hx
   . rename_i t p hp
     have h0 := key_len hp
     split at hx
     . cases hx
     . rename_i h1 k1 r1 he
       have h2 := ih _ _ _ _ _ _ he
       simp only [szOf] at h2
       split at hx
       . cases hx
       . rename_i q hq
         have h3 := nx_len (.inl hq)
         injection hx with _ h4 hx; subst hx h4
         simp only [szOf, F.sz]; omega
       . rename_i q hq
         have h3 := nx_len (.inr hq)
         cases hr : rd n (.mems (ks ++ [t])) d q with
         | err no q2 => rw [hr] at hx; cases hx
         | ok h4 k4 r4 =>
           rw [hr] at hx
           injection hx with _ h5 hx; subst hx h5
           have h6 := ih _ _ _ _ _ _ hr
           simp only [szOf, F.sz] at h6 ⊢; omega
theorem val_sz {d : Nat} {s : List UInt8} {h : Hd} {f : F} {r : List UInt8} (hx : val d s = .ok h f r) : f.sz + 1 + r.length ≤ s.length := rd_sz _ _ _ _ _ _ _ hx
theorem trim_at {f : F} (ht : trim f = f) {i : Nat} {h : Hd} {k : F} (e : (toL f)[i]? = some (h, k)) : trimH h = h /\ trimK h k = k := by
 induction f generalizing i with
 | nil => simp [toL] at e
 | cons h0 k0 r _ ih =>
  rw [trim_cons] at ht
  injection ht with h1 h2 h3
  cases i with
  | zero => simp [toL] at e; obtain ⟨rfl, rfl⟩ := e; exact ⟨h1, h2⟩
  | succ i => exact ih h3 (by simpa [toL] using e)
end Js
end Go.Proofs.YtjohdaobhonioaaGreatDoor
namespace Go.Proofs.YtjohdaobhonioaaGreatDoor
open Go.RowKit
namespace Js
theorem plainMethodValue (v : Value) (w : World) : (Go.method 553 211 v "strata/json.value").run Tryz.prog w = .ok (321, v) w := by kernel_rfl
theorem numberMethodValue (v : Value) (w : World) : (Go.method 553 219 v "strata/json.value").run Tryz.prog w = .ok (323, v) w := by kernel_rfl
theorem textMethodValue (v : Value) (w : World) : (Go.method 553 212 v "strata/json.value").run Tryz.prog w = .ok (322, v) w := by kernel_rfl
theorem listMethodValue (v : Value) (w : World) : (Go.method 553 327 v "strata/json.value").run Tryz.prog w = .ok (327, v) w := by kernel_rfl
theorem objectMethodValue (v : Value) (w : World) : (Go.method 553 329 v "strata/json.value").run Tryz.prog w = .ok (329, v) w := by kernel_rfl
theorem node_value (n : Nat) (hV : ∀ m, m < n -> ValsC m) {w : World} {S : Nat -> Prop} {h : Hd} {k : F} {u : Value} (hv : TV (encN true) w S h k [u]) (h1 : trimH h = h) (h2 : trimK h k = k) (hS : ∀ b, S b -> b < w.heap.size) (hk : k.sz < n) :
   ∃ T v fn, u = .iface T v /\ (∀ wx, (Go.method 553 T v "strata/json.value").run Tryz.prog wx = .ok (fn, v) wx) /\ (∀ wx, (Go.callFunc fn #[v]).run Tryz.prog wx = .ok (.enter fn #[v]) wx) /\ Calls Tryz.prog fn #[v] w (VPost h k w) := by
 rcases node_cases hv h1 h2 with ⟨z, rfl, rfl, rfl⟩ | ⟨z, rfl, rfl, rfl⟩ | ⟨t, rfl, rfl, rfl⟩ | ⟨A2, c2, us2, rfl, rfl, htk, hkl, r1, r2⟩ | ⟨A2, c2, us2, A3, c3, ks, rfl, rfl, htk, hkl, hksl, hksn, r1, r2, r3⟩
 . exact ⟨_, _, _, rfl, plainMethodValue _, (fun _ => by kernel_rfl), plain_value z w⟩
 . exact ⟨_, _, _, rfl, numberMethodValue _, (fun _ => by kernel_rfl), number_value z w⟩
 . exact ⟨_, _, _, rfl, textMethodValue _, (fun _ => by kernel_rfl), text_value t w⟩
 . exact ⟨_, _, _, rfl, listMethodValue _, (fun _ => by kernel_rfl), list_value k.sz (hV _ hk) k A2 c2 us2 S w (Nat.le_refl _) htk hkl r1 r2 hS⟩
 . exact ⟨_, _, _, rfl, objectMethodValue _, (fun _ => by kernel_rfl), object_value k.sz (hV _ hk) k ks A2 A3 c2 c3 us2 S w (Nat.le_refl _) htk hkl r1 r2 hS ks.length rfl hksl r3 hksn⟩
theorem ot_form {w : World} {B : Nat} {eI eK : TypeId} {h : Hd} {k : F} {iv kv : Value} {bs : List Nat} (ht : OT encJ w B eI eK (.cons h k .nil) (jcells h iv kv) bs) : (∃ A c, iv = .slice A k.len c) /\ ∃ A c, kv = .slice A h.keys.length c := by
 obtain ⟨iv', kv', us, rest, b1, b2, he, _, _, h1, _, h3, _⟩ := ht
 simp only [encJ, jcells, List.cons_append, List.cons.injEq] at he
 obtain ⟨_, _, _, rfl, rfl, _⟩ := he
 obtain ⟨A, c, e, _⟩ := own_readsN h1
 obtain ⟨A2, c2, e2, _⟩ := own_readsN h3
 exact ⟨⟨A, c, e⟩, A2, c2, e2⟩
set_option maxHeartbeats 16000000 in
set_option maxRecDepth 100000 in
theorem vals_step (n : Nat) (hn : n ≤ 1099511627776) (hV : ∀ m, m < n -> ValsC m) : ValsC n := by
 intro f A c us S w hf ht hl hr htr hS
 obtain ⟨i0, hi0, hz0, hz1, hz2⟩ := info_parts infoJson
 have hln : f.len ≤ 1099511627776 := Nat.le_trans f.len_sz (Nat.le_trans hf hn)
 have HV := Lib.hid hV
 have HF := Lib.hid hf
 have HR := Lib.hid (hr.reads hS)
 have HTR := Lib.hid htr
 have HS := Lib.hid hS
 have HT : Hid (trim f = f) := Lib.hid ht
 obtain ⟨L, hL⟩ : ∃ L, L = f.len := ⟨_, rfl⟩
 have HL := Lib.hid hL
 rw [<- hL] at HR hln ⊢
 clear hV hf hr htr hS ht hl hL
 go_enter Tryz.func328, Tryz.ntmps328
 go_wp2_with fail
 go_loopw [3, 8] (fun v i wr => ∃ (k : Nat) (bs : List Nat), k ≤ L /\ i = .int .i64 k /\ Hid (OL encJ wr w.heap.size 54 9 v (f.take k) bs) /\ Hid (Below w.heap.size w wr)) (fun _ i _ => L - (intOf i).toNat)
 case atStart => exact ⟨0, [], by omega, rfl, Lib.hid (OL.nil _ _ _ _ _), Lib.hid (Below.refl _ _)⟩
 case round =>
  obtain ⟨k, bs, hk, rfl, HO, HB⟩ := hrel
  by_cases hlt : k < L
  . obtain ⟨ad, u, rfl, _, hu, hc⟩ := (HR.out.below HB.out).at_ hlt
    obtain ⟨h0, kk, he, hsz, htv⟩ := HTR.out.at_ (i := k) (by have := HL.out; omega)
    obtain ⟨ht1, ht2⟩ := trim_at HT.out he
    have htv' : TV (encN true) w S h0 kk [u] := by
     have e1 : (us.drop (k * 1)).take 1 = [u] := by
       rw [Nat.mul_one]
       have hlt2 : k < us.length := by
        rcases Nat.lt_or_ge k us.length with h | h
        . exact h
        . rw [List.getElem?_eq_none h] at hu; cases hu
       rw [List.drop_eq_getElem_cons hlt2]
       rw [List.getElem?_eq_getElem hlt2] at hu
       injection hu with hu
       simp [hu]
     exact e1 ▸ htv
    have htv2 := htv'.kept (w' := wr) (fun p hp => HB.out.cell (HS.out _ hp))
    have hS2 : ∀ b, S b -> b < wr.heap.size := fun b hb => by have := HS.out b hb; have := HB.out.size; omega
    have hkk : kk.sz < n := by have := HF.out; omega
    have HTK : Hid (f.take (k + 1) = (f.take k).app (.cons h0 kk .nil)) := Lib.hid (F.take_succ he)
    have HTL : Hid ((f.take k).len = k) := Lib.hid (F.take_len (by have := HL.out; omega))
    have hw := HB.out.size
    obtain ⟨T, v, fn, rfl, hmeth, hcf, hcall⟩ := node_value n HV.out htv2 ht1 ht2 hS2 hkk
    have HC := Lib.hid hcall
    clear hu htv htv' htv2 hS2 ht1 ht2 he hsz hcall
    go_wp2_with fail
    refine HC.out.mono ?_
    rintro x w1 ⟨iv, kv, bs2, rfl, hot, hnd, hb1⟩
    obtain ⟨⟨A1, c1, rfl⟩, A2, c2, rfl⟩ := ot_form hot
    obtain ⟨A0, c0, e0⟩ := HO.out.form
    rw [HTL.out] at e0
    subst e0
    obtain ⟨w2, hw2⟩ : ∃ w2, w2 = w1.alloc (.cells #[.int .i64 h0.kind, .int .i64 h0.num, .string ⟨h0.text.toArray⟩, .slice A1 kk.len c1, .slice A2 h0.keys.length c2] 54) := ⟨_, rfl⟩
    have HG : Hid (w2.heap[w1.heap.size]? = some (.cells #[.int .i64 h0.kind, .int .i64 h0.num, .string ⟨h0.text.toArray⟩, .slice A1 kk.len c1, .slice A2 h0.keys.length c2] 54)) := Lib.hid (by rw [hw2]; exact heap_alloc_new _ _)
    have hb2 : Below w1.heap.size w1 w2 := by rw [hw2]; exact (Below.refl _ _).alloc (Nat.le_refl _) _
    have hs1 := hb1.size
    have hs2 := hb2.size
    have HB2 : Hid (Below w.heap.size w w2) := Lib.hid (HB.out.trans ((hb1.mono hw).trans (hb2.mono (by omega))))
    have HSZ : Hid (w2.heap.size = w1.heap.size + 1 /\ wr.heap.size ≤ w1.heap.size) := Lib.hid (by rw [hw2]; exact ⟨by simp, hs1⟩)
    have HNEW : Hid (∃ xs, w2.ownsRow w.heap.size 54 5 (.slice A0 k c0) k xs /\ ∀ v' w', w'.ownsRow w.heap.size 54 5 v' (k + 1) (xs ++ jcells h0 (.slice A1 kk.len c1) (.slice A2 h0.keys.length c2)) -> w2.grownBy w' (Value.ownBlock (.slice A0 k c0)) -> (v'.ownBlock = Value.ownBlock (.slice A0 k c0) ∨ v'.ownBlock = some w2.heap.size) ->
       OL encJ w' w.heap.size 54 9 v' (f.take (k + 1)) (bs ++ bs2)) := Lib.hid (by
     have hk1 : ∀ b, b < w1.heap.size -> w2.heap[b]? = w1.heap[b]? := fun b hb => hb2.block b hb
     have hk2 : ∀ b, b < wr.heap.size -> w1.heap[b]? = wr.heap[b]? := fun b hb => hb1.block b hb
     obtain ⟨xs, ho, ht, hnn⟩ := HO.out
     rw [HTL.out] at ho
     have ho2 : w2.ownsRow w.heap.size 54 5 (.slice A0 k c0) k xs := own_at ho (fun b hb => by have := (own_lt ho hb).2; rw [hk1 b (by omega), hk2 b this])
     refine ⟨xs, ho2, fun v' w' h1 h2 h3 => ?_⟩
     have ht2 : OT encJ w2 w.heap.size 54 9 (f.take k) xs bs := ht.kept fun b hb => by have := (ht.lt b hb).2; rw [hk1 b (by omega), hk2 b this]
     have hot2 := (hot.less (B' := w.heap.size) hw).kept (w' := w2) fun b hb => hk1 b (hot.lt b hb).2
     rw [HTK.out]
     refine OL.push ht2 hot2 ?_ (by rw [HTL.out]; exact h1) h2 h3
     rw [<- List.append_assoc, List.nodup_append]
     refine ⟨hnn, hnd, fun a ha b hb e => ?_⟩
     subst e
     have h6 := (hot.lt a hb).1
     rcases List.mem_append.1 ha with h | h
     . have := (ob_lt ho h).2; omega
     . have := (ht.lt a h).2; omega)
    obtain ⟨xs, hown, hnew⟩ := HNEW.out
    have HOWN := Lib.hid hown
    have HN2 := Lib.hid hnew
    clear hown hnew HNEW hot hb1 hb2 hnd HC HO HB hs1 hs2
    go_wp2_with (at_builtin; (try rw [<- hw2]); refine wpList_append_any _ rfl _ _ 52 rfl w.heap.size 54 i0 _ 5 80 Tryz.underlying52 hi0 hz0 hz1 hz2 rfl (by decide) (.slice A0 k c0) k xs rfl HOWN.out w2.heap.size (some ⟨w1.heap.size, 0, none⟩) 1 1 (jcells h0 (.slice A1 kk.len c1) (.slice A2 h0.keys.length c2)) rfl (Reads.of_block HG.out rfl) (encJ.one _ _ _ _ _ _ _) (by unfold maxLen; omega) (by omega) (by have := HB2.out.size; omega) ?_; intro v6 w6 hown6 hgrow6 hl6)
    refine ⟨⟨k + 1, bs ++ bs2, by omega, by push_cast; rfl, Lib.hid (HN2.out _ _ hown6 hgrow6 hl6), Lib.hid (Below.grown HB2.out hgrow6 HB2.out.size (fun g hg => (own_lt HOWN.out hg).1))⟩, ?_⟩
    show L - ((k : Int) + 1).toNat < L - ((k : Int)).toNat
    omega
  . have hkL : k = L := by omega
    subst hkL
    have HO1 : Hid (OL encJ wr w.heap.size 54 9 u3 f bs) := Lib.hid (by have := HO.out; rwa [HL.out, F.take_all] at this)
    go_wp2
    go_ret
    exact ⟨_, bs, rfl, HO1.out, HB.out⟩
theorem vals_any (n : Nat) : n ≤ 1099511627776 -> ValsC n := by
 induction n using Nat.strongRecOn with
 | ind n ih => exact fun hn => vals_step n hn fun m hm => ih m hm (by omega)
end Js
end Go.Proofs.YtjohdaobhonioaaGreatDoor
namespace Go.Proofs.YtjohdaobhonioaaGreatDoor
open Go.RowKit
namespace Js
def errnoV (n : Nat) : Value := .iface 110 (.int .i64 n)
def Fit (h : Hd) : Prop := h.text.length ≤ 4398046511104 /\ ∀ x ∈ h.keys, x.length ≤ 4398046511104
theorem All_at {P : Hd -> Prop} {f : F} (h : f.All P) {i : Nat} {h0 : Hd} {k : F} (e : (toL f)[i]? = some (h0, k)) : P h0 /\ k.All P := by
 induction f generalizing i with
 | nil => simp [toL] at e
 | cons h1 k1 r _ ih =>
  cases i with
  | zero => simp [toL] at e; obtain ⟨rfl, rfl⟩ := e; exact ⟨h.1, h.2.1⟩
  | succ i => exact ih h.2.2 (by simpa [toL] using e)
theorem take_app (f : F) (i : Nat) : ∃ g, f = (f.take i).app g := by
 induction f generalizing i with
 | nil => exact ⟨.nil, by cases i <;> rfl⟩
 | cons h k r _ ih =>
  cases i with
  | zero => exact ⟨_, rfl⟩
  | succ i => obtain ⟨g, e⟩ := ih i; exact ⟨g, by simp only [F.take, F.app]; rw [<- e]⟩
theorem wrongsF_app (d : Nat) (f g : F) : wrongsF d (f.app g) = if wrongsF d f ≠ 0 then wrongsF d f else wrongsF d g := by
 induction f with
 | nil => simp [F.app, wrongsF]
 | cons h k r _ ih =>
  rw [F.app, wrongsF_cons, wrongsF_cons, ih]
  by_cases h1 : wrongs d h k = 0 <;> simp [h1]
theorem wrongsF_take {d : Nat} {f : F} {i : Nat} {h : Hd} {k : F} (e : (toL f)[i]? = some (h, k)) (h0 : wrongsF d (f.take i) = 0) : wrongsF d (f.take (i + 1)) = wrongs d h k := by
 rw [F.take_succ e, wrongsF_app, h0, wrongsF_cons]
 by_cases h1 : wrongs d h k = 0 <;> simp [h1, wrongsF]
theorem wrongsF_bad {d : Nat} {f : F} {i : Nat} {h : Hd} {k : F} (e : (toL f)[i]? = some (h, k)) (h0 : wrongsF d (f.take i) = 0) (hw : wrongs d h k ≠ 0) : wrongsF d f = wrongs d h k := by
 obtain ⟨g, hg⟩ := take_app f (i + 1)
 have := wrongsF_app d (f.take (i + 1)) g
 rw [<- hg, wrongsF_take e h0, if_pos hw] at this
 exact this
theorem trim_take {f : F} {i : Nat} {h : Hd} {k : F} (e : (toL f)[i]? = some (h, k)) : trim (f.take (i + 1)) = (trim (f.take i)).app (.cons (trimH h) (trimK h k) .nil) := by rw [F.take_succ e, trim_app, trim_cons]; rfl
theorem at5 {us : List Value} {n : Nat} {a b c d e : Value} (h : (us.drop n).take 5 = [a, b, c, d, e]) : us[n]? = some a /\ us[n + 1]? = some b /\ us[n + 2]? = some c /\ us[n + 3]? = some d /\ us[n + 4]? = some e := by
 have g : ∀ j, j < 5 -> us[n + j]? = ([a, b, c, d, e] : List Value)[j]? := fun j hj => by rw [<- h, List.getElem?_take_of_lt hj, List.getElem?_drop]
 exact ⟨g 0 (by decide), g 1 (by decide), g 2 (by decide), g 3 (by decide), g 4 (by decide)⟩
theorem cells5 {w : World} {ad : Addr} {us : List Value} {k : Nat} {a b c d e : Value} (hc : ∀ j u, us[j]? = some u -> w.cell? (ad.add j) = some u) (h : (us.drop (k * 5)).take 5 = [a, b, c, d, e]) :
  w.cell? (ad.add (k * 5)) = some a /\ w.cell? ⟨(ad.add (k * 5)).block, (ad.add (k * 5)).off + 1, none⟩ = some b /\ w.cell? ⟨(ad.add (k * 5)).block, (ad.add (k * 5)).off + 2, none⟩ = some c /\ w.cell? ⟨(ad.add (k * 5)).block, (ad.add (k * 5)).off + 3, none⟩ = some d /\ w.cell? ⟨(ad.add (k * 5)).block, (ad.add (k * 5)).off + 4, none⟩ = some e := by
 obtain ⟨h0, h1, h2, h3, h4⟩ := at5 h
 have g : ∀ j u, us[k * 5 + j + 1]? = some u -> w.cell? ⟨(ad.add (k * 5)).block, (ad.add (k * 5)).off + (j + 1), none⟩ = some u := fun j u hu => by
  have e := hc _ _ hu
  rw [Nat.add_assoc, <- add_of_add] at e
  rw [<- e]; unfold Addr.add; simp
 exact ⟨hc _ _ h0, g 0 _ h1, g 1 _ h2, g 2 _ h3, g 3 _ h4⟩
def OfPost (d : Nat) (h : Hd) (k : F) (S : Nat -> Prop) (w : World) (x : Ending) (w' : World) : Prop :=
 (wrongs d h k = 0 /\ ∃ u S', x = .returned (.tuple #[u, .nilIface]) /\ TV (encN false) w' S' (trimH h) (trimK h k) [u] /\ (∀ b, S' b -> S b ∨ (w.heap.size ≤ b /\ b < w'.heap.size)) /\ Below w.heap.size w w') ∨
 (wrongs d h k ≠ 0 /\ ∃ u, x = .returned (.tuple #[u, errnoV (wrongs d h k)]) /\ Below w.heap.size w w')
def AllPost (d : Nat) (f : F) (S : Nat -> Prop) (w : World) (x : Ending) (w' : World) : Prop :=
 (wrongsF (d + 1) f = 0 /\ ∃ v, x = .returned (.tuple #[v, .nilIface]) /\ TL (encN false) w' w.heap.size S 129 v (trim f) /\ Below w.heap.size w w') ∨
 (wrongsF (d + 1) f ≠ 0 /\ x = .returned (.tuple #[.slice none 0 0, errnoV (wrongsF (d + 1) f)]) /\ Below w.heap.size w w')
def OfC (n : Nat) : Prop := ∀ (d : Nat) (h : Hd) (k : F) (iv kv : Value) (S : Nat -> Prop) (w : World), k.sz ≤ n -> d ≤ 33 -> Fit h -> k.All Fit -> TV encJ w S h k (jcells h iv kv) -> (∀ b, S b -> b < w.heap.size) -> St w ->
 Calls Tryz.prog 139 #[.agg #[.int .i64 h.kind, .int .i64 h.num, .string ⟨h.text.toArray⟩, iv, kv], .int .i64 d] w (OfPost d h k S w)
def AllC (n : Nat) : Prop := ∀ (d : Nat) (f : F) (A : Option Addr) (c : Nat) (us : List Value) (S : Nat -> Prop) (w : World), f.sz ≤ n -> f.len ≤ 4398046511104 -> d ≤ 32 -> f.All Fit -> RdS w S 5 A f.len us -> TR encJ w S f us -> (∀ b, S b -> b < w.heap.size) -> St w ->
 Calls Tryz.prog 208 #[.slice A f.len c, .int .i64 d] w (AllPost d f S w)
set_option maxHeartbeats 16000000 in
set_option maxRecDepth 100000 in
theorem all_step (n : Nat) (hO : ∀ m, m < n -> OfC m) : AllC n := by
 intro d f A c us S w hf hl hd hfit hr htr hS hst
 have HO := Lib.hid hO
 have HF := Lib.hid hf
 have HR := Lib.hid hr
 have HTR := Lib.hid htr
 have HS := Lib.hid hS
 have HST := Lib.hid hst
 have HFIT := Lib.hid hfit
 have HD := Lib.hid hd
 obtain ⟨L, hL⟩ : ∃ L, L = f.len := ⟨_, rfl⟩
 have HL := Lib.hid hL
 rw [<- hL] at HR hl ⊢
 clear hO hf hr htr hS hst hfit hd hL
 go_enter Tryz.func208, Tryz.ntmps208
 go_wp2_with fail
 go_loopw [6, 13] (fun v i wr => ∃ (k : Nat), k ≤ L /\ i = .int .i64 k /\ Hid (wrongsF (d + 1) (f.take k) = 0) /\ Hid (TL (encN false) wr w.heap.size S 129 v (trim (f.take k))) /\ Hid (Below w.heap.size w wr)) (fun _ i _ => L - (intOf i).toNat)
 case atStart => exact ⟨0, by omega, rfl, Lib.hid rfl, Lib.hid (TL.nil _ _ _ _ _), Lib.hid (Below.refl _ _)⟩
 case round =>
  obtain ⟨k, hk, rfl, HW, HT, HB⟩ := hrel
  by_cases hlt : k < L
  . obtain ⟨ad, rfl, hab, hcs⟩ := HR.out.2 (by omega)
    obtain ⟨h0, kk, he, hsz, htv⟩ := HTR.out.at_ (i := k) (by have := HL.out; omega)
    obtain ⟨hf0, hfk⟩ := All_at HFIT.out he
    obtain ⟨A1, c1, A2, c2, us2, ecs, htv'⟩ := htv
    have hcs' := fun j u hu => (HB.out.cell (show (ad.add j).block < w.heap.size by rw [block_of_add]; exact HS.out _ hab)).trans (hcs j u hu)
    obtain ⟨cc0, cc1, cc2, cc3, cc4⟩ := cells5 hcs' ecs
    have HTV : Hid (TV encJ w S h0 kk (jcells h0 (.slice A1 kk.len c1) (.slice A2 h0.keys.length c2))) := Lib.hid ⟨A1, c1, A2, c2, us2, rfl, htv'⟩
    have HSZ : Hid (kk.sz < n) := Lib.hid (by have := HF.out; omega)
    have HFT : Hid (Fit h0 /\ kk.All Fit) := Lib.hid ⟨hf0, hfk⟩
    have HE := Lib.hid he
    have HC : Hid (∀ wx, Below w.heap.size w wx -> Calls Tryz.prog 139 #[.agg #[.int .i64 h0.kind, .int .i64 h0.num, .string ⟨h0.text.toArray⟩, .slice A1 kk.len c1, .slice A2 h0.keys.length c2], .int .i64 ((d + 1 : Nat) : Int)] wx (OfPost (d + 1) h0 kk S wx)) :=
      Lib.hid fun wx hb => HO.out _ HSZ.out (d + 1) h0 kk _ _ S wx (Nat.le_refl _) (by have := HD.out; omega) hf0 hfk (HTV.out.kept fun p hp => hb.cell (HS.out _ hp)) (fun b h => by have := HS.out b h; have := hb.size; omega) (HST.out.below hb)
    rw [show (((d + 1 : Nat) : Int)) = (d : Int) + 1 by push_cast; rfl] at HC
    have hd2 := HD.out
    clear htv' ecs hcs hcs' he hsz hf0 hfk
    have hsw := HB.out.size
    go_wp2_with fail
    refine (HC.out _ (HB.out.alloc hsw _)).mono ?_
    rintro x w1 (⟨hw0, u, S', rfl, htu, hS', hb1⟩ | ⟨hw0, u, rfl, hb1⟩)
    . obtain ⟨T0, y0, rfl⟩ := htu.iface
      have hsz1 : wr.heap.size + 1 ≤ w1.heap.size := by have := hb1.size; simpa using this
      have hS1 : ∀ b, S' b -> S b ∨ (wr.heap.size < b /\ b < w1.heap.size) := fun b hb => by
        rcases hS' b hb with h | h
        . exact .inl h
        . right
          have h1 : wr.heap.size + 1 ≤ b := by have := h.1; simpa using this
          exact ⟨h1, h.2⟩
      have hbw : Below wr.heap.size wr w1 := ((Below.refl _ wr).alloc (Nat.le_refl _) _).trans (hb1.mono (by simp))
      have HT1 : Hid (TL (encN false) w1 w.heap.size S 129 u6 (trim (f.take k))) := Lib.hid (HT.out.kept (fun b _ h => hbw.block b h) (fun b h1 h2 => hbw.block b (by omega)) hbw.size)
      have HB1 : Hid (Below w.heap.size w w1) := Lib.hid (HB.out.trans (hbw.mono hsw))
      have HOWN : Hid (∀ b, u6.ownBlock = some b -> b < wr.heap.size) := Lib.hid fun b hb => (HT.out.own hb).2
      have HTU := Lib.hid (htu.tr)
      have HTRM : Hid ((trim (f.take k)).app (.cons (trimH h0) (trimK h0 kk) .nil) = trim (f.take (k + 1))) := Lib.hid (trim_take HE.out).symm
      have HLEN : Hid ((trim (f.take k)).len = k) := Lib.hid (by rw [trim_len, F.take_len (by have := HL.out; omega)])
      have HWN : Hid (wrongsF (d + 1) (f.take (k + 1)) = 0) := Lib.hid (by rw [wrongsF_take HE.out HW.out]; exact hw0)
      have HS2 := Lib.hid hS1
      clear hS' hS1 htu hb1 hw0 HC HT hbw HB HTV
      go_wp2_with (at_builtin; refine wpList_push rfl 324 Tryz.underlying324 _ _ rfl false w.heap.size _ S _ _ rfl (HT1.out.alloc (by omega) _) _ 1 1 [.iface T0 y0] rfl (Reads.one (cell_new1 _ _ _) (by simp)) S' _ (HTU.out.kept fun p hp => ?_) rfl ?_ (by rw [HLEN.out]; omega) (by simp; omega) ?_)
      . exact World.cell?_alloc_lt _ _ _ (by
          rcases HS2.out _ hp with h | h
          . have := HS.out _ h; omega
          . exact h.2)
      . intro b hb
        rcases HS2.out b hb with h | h
        . exact .inr ⟨h, HS.out b h⟩
        . exact .inl ⟨by omega, by simp; omega, fun e => by have := HOWN.out b e; omega⟩
      . intro v' w' hT' hK'
        rw [HTRM.out] at hT'
        have HT2 := Lib.hid hT'
        have HB2 : Hid (Below w.heap.size w w') := Lib.hid ((HB1.out.alloc HB1.out.size _).trans hK'.below)
        clear hT' hK' HT1 HB1
        go_wp2_with fail
        refine ⟨⟨k + 1, by omega, by push_cast; rfl, HWN, HT2, HB2⟩, ?_⟩
        show L - ((k : Int) + 1).toNat < L - ((k : Int)).toNat
        omega
    . unfold errnoV
      go_wp2
      go_ret2
      have hbw : Below wr.heap.size wr w1 := ((Below.refl _ wr).alloc (Nat.le_refl _) _).trans (hb1.mono (by simp))
      refine .inr ?_
      rw [wrongsF_bad HE.out HW.out hw0]
      exact ⟨hw0, rfl, HB.out.trans (hbw.mono hsw)⟩
  . have hkL : k = L := by omega
    subst hkL
    go_wp2
    go_ret2
    refine .inl ⟨?_, _, rfl, ?_, HB.out⟩
    . have := HW.out; rwa [HL.out, F.take_all] at this
    . have := HT.out; rwa [HL.out, F.take_all] at this
end Js
end Go.Proofs.YtjohdaobhonioaaGreatDoor
