/-
  The walks of package json's methods value and of values at this seat's translation: nodes as values, each list the call's own.
-/
import Derived.Test.YtlfeddgpfaigkaaGreatDoorJsO
import Derived.Test.YtlfeddgpfaigkaaGreatDoorApa
import Derived.WalkSpells
namespace Go.Proofs.YtlfeddgpfaigkaaGreatDoor
open Go.RowKit
namespace Js
/-- A value's five cells. -/
def jcells (h : Hd) (iv kv : Value) : List Value := [.int .i64 h.kind, .int .i64 h.num, .string ⟨h.text.toArray⟩, iv, kv]
/-- Values as they lie: five cells each. -/
def encJ : Enc where
  sz := 5
  nilk := false
  V := jcells
  len _ _ _ := rfl
  one h A n c A' n' c' x hx := by simp [jcells] at hx; rcases hx with rfl | rfl | rfl | rfl | rfl <;> rfl
theorem infoJson : (Tryz.prog.info? 25).map (fun i => (i.zero, i.size, i.bytes)) = some (some (.agg #[.int .i64 0, .int .i64 0, .string .empty, .slice none 0 0, .slice none 0 0]), 5, 80) := by kernel_rfl
/-- What a method value answers. -/
def VPost (h : Hd) (k : F) (w : World) (x : Ending) (w' : World) : Prop :=
  ∃ iv kv bs, x = .returned (.agg #[.int .i64 h.kind, .int .i64 h.num, .string ⟨h.text.toArray⟩, iv, kv]) ∧ OT encJ w' w.heap.size 25 9 (.cons h k .nil) (jcells h iv kv) bs ∧ bs.Nodup ∧ Below w.heap.size w w'
theorem ot_atom (h : Hd) (hk : h.keys = []) (w : World) (B : Nat) : OT encJ w B 25 9 (.cons h .nil .nil) (jcells h (.slice none 0 0) (.slice none 0 0)) [] :=
  ⟨.slice none 0 0, .slice none 0 0, [], [], [], [], by simp [encJ], by simp [F.len], by simp [hk], World.ownsRow_nil _ _ _ _, ⟨rfl, rfl⟩, by rw [hk]; exact World.ownsRow_nil _ _ _ _, ⟨rfl, rfl⟩, rfl⟩
/-- A value laid behind a list, all apart. -/
theorem OL.push {E : Enc} {w w' : World} {B : Nat} {eI eK : TypeId} {v v' : Value} {f g : F} {xs cs : List Value} {bs bs' : List Nat} (ht : OT E w B eI eK f xs bs) (hg : OT E w B eI eK g cs bs') (hn : (ob v ++ (bs ++ bs')).Nodup)
    (ho' : w'.ownsRow B eI E.sz v' (f.len + g.len) (xs ++ cs)) (hgr : w.grownBy w' v.ownBlock) (hl : v'.ownBlock = v.ownBlock ∨ v'.ownBlock = some w.heap.size) : OL E w' B eI eK v' (f.app g) (bs ++ bs') := by
  have hlt : ∀ b ∈ bs ++ bs', B ≤ b ∧ b < w.heap.size := fun b hb => by
    rcases List.mem_append.1 hb with h | h
    · exact ht.lt b h
    · exact hg.lt b h
  have hne : ∀ b ∈ bs ++ bs', v.ownBlock ≠ some b := fun b hb e => by
    rw [List.nodup_append] at hn
    exact hn.2.2 b (by simp [ob, e]) b hb rfl
  have hk : ∀ b ∈ bs ++ bs', w'.heap[b]? = w.heap[b]? := fun b hb => hgr.block b (hlt b hb).2 (fun e => hne b hb e.symm)
  refine ⟨xs ++ cs, by rw [F.len_app]; exact ho', (ht.app hg).kept hk, ?_⟩
  rw [List.nodup_append] at hn ⊢
  refine ⟨?_, hn.2.1, fun a ha b hb e => ?_⟩
  · unfold ob; cases v'.ownBlock <;> simp
  · subst e
    rcases hl with h | h
    · exact hn.2.2 a (by simpa [ob, h] using ha) a hb rfl
    · have : a = w.heap.size := by simpa [ob, h] using ha
      have := hlt a hb; omega
abbrev st5 (w : World) (b : Nat) (a0 a1 a2 a3 a4 : Value) : World := (((((w.setCell ⟨b, 0, none⟩ a0).setCell ⟨b, 1, none⟩ a1).setCell ⟨b, 2, none⟩ a2).setCell ⟨b, 3, none⟩ a3).setCell ⟨b, 4, none⟩ a4)
section
variable {w : World} {b : Nat} {a0 a1 a2 a3 a4 z0 z1 z2 z3 z4 : Value} {T : TypeId}
theorem blk_set5 (h : Blk w b T #[z0, z1, z2, z3, z4]) : Blk (st5 w b a0 a1 a2 a3 a4) b T #[a0, a1, a2, a3, a4] := by
  have := ((((h.set_ 0 a0).set_ 1 a1).set_ 2 a2).set_ 3 a3).set_ 4 a4
  exact this
theorem blk_far5 {g : Nat} {t : TypeId} {cs : Array Value} (h : Blk w g t cs) (hg : g ≠ b) : Blk (st5 w b a0 a1 a2 a3 a4) g t cs :=
  ((((h.far (p := ⟨b, 0, none⟩) hg _).far (p := ⟨b, 1, none⟩) hg _).far (p := ⟨b, 2, none⟩) hg _).far (p := ⟨b, 3, none⟩) hg _).far (p := ⟨b, 4, none⟩) hg _
theorem heap_set5 (k : Nat) (hk : k ≠ b) : (st5 w b a0 a1 a2 a3 a4).heap[k]? = w.heap[k]? := by
  rw [Below.heap_setCell _ ⟨b, 4, none⟩ _ k hk, Below.heap_setCell _ ⟨b, 3, none⟩ _ k hk, Below.heap_setCell _ ⟨b, 2, none⟩ _ k hk, Below.heap_setCell _ ⟨b, 1, none⟩ _ k hk, Below.heap_setCell _ ⟨b, 0, none⟩ _ k hk]
theorem below_set5 {B : Nat} {a : World} (h : Below B a w) (hb : B ≤ b) : Below B a (st5 w b a0 a1 a2 a3 a4) :=
  ((((h.setCell (p := ⟨b, 0, none⟩) hb _).setCell (p := ⟨b, 1, none⟩) hb _).setCell (p := ⟨b, 2, none⟩) hb _).setCell (p := ⟨b, 3, none⟩) hb _).setCell (p := ⟨b, 4, none⟩) hb _
theorem OL.set5 {E : Enc} {B : Nat} {eI eK : TypeId} {v : Value} {f : F} {bs : List Nat} (h : OL E w B eI eK v f bs) (hb : b < B) : OL E (st5 w b a0 a1 a2 a3 a4) B eI eK v f bs :=
  h.kept fun k h1 _ => heap_set5 k (by omega)
end
/-- A list's value out of its items. -/
theorem OL.list {w : World} {B : Nat} {v : Value} {k : F} {bs : List Nat} (h : OL encJ w B 25 9 v k bs) (hl : k.len ≤ 4398046511104) :
    OT encJ w B 25 9 (.cons (plainH 5) k .nil) (jcells (plainH 5) v (.slice none 0 0)) (ob v ++ bs) ∧ (ob v ++ bs).Nodup := by
  obtain ⟨vs, ho, ht, hn⟩ := h
  exact ⟨⟨v, .slice none 0 0, vs, [], bs, [], by simp [encJ], hl, by simp [plainH], ho, ht, World.ownsRow_nil _ _ _ _, ⟨rfl, rfl⟩, by simp [ob, Value.ownBlock]⟩, hn⟩
/-- An object's value out of its items and keys. -/
theorem OL.obj {w : World} {B B' : Nat} {v kv : Value} {k : F} {ks : List (List UInt8)} {bs : List Nat} (h : OL encJ w B 25 9 v k bs) (hl : k.len ≤ 4398046511104) (hkl : ks.length ≤ 4398046511104) (hk : w.ownsRow B' 9 1 kv ks.length (tx ks)) (hB : B ≤ B') (hlt : ∀ b ∈ ob v ++ bs, b < B') :
    OT encJ w B 25 9 (.cons ⟨6, 0, [], ks⟩ k .nil) (jcells ⟨6, 0, [], ks⟩ v kv) (ob v ++ (bs ++ ob kv)) ∧ (ob v ++ (bs ++ ob kv)).Nodup := by
  obtain ⟨vs, ho, ht, hn⟩ := h
  refine ⟨⟨v, kv, vs, [], bs, [], by simp [encJ], hl, hkl, ho, ht, own_less hk hB, ⟨rfl, rfl⟩, by simp⟩, ?_⟩
  rw [← List.append_assoc, List.nodup_append]
  refine ⟨hn, ?_, fun a ha b hb e => ?_⟩
  · unfold ob; cases kv.ownBlock <;> simp
  · subst e
    have := hlt a ha
    have := (ob_lt hk hb).1
    omega
-- <
set_option maxHeartbeats 2000000 in
theorem plain_value (k : Int) (w : World) : Calls Tryz.prog 225 #[.int .i64 k] w (VPost (plainH k) .nil w) := by
  go_enter Tryz.func225, Tryz.ntmps225
  go_wp2
  exact bodyPost_ret (results_row rfl _ _ w.heap.size 25 _ (0, 0) _ rfl (heap_alloc_new w _) Tryz.underlying25 rfl (by kernel_rfl)) rfl ⟨_, _, [], rfl, ot_atom _ rfl _ _, List.nodup_nil, (Below.refl _ _).alloc (Nat.le_refl _) _⟩
theorem number_value (z : Int) (w : World) : Calls Tryz.prog 226 #[.int .i64 z] w (VPost ⟨3, z, [], []⟩ .nil w) := by
  go_enter Tryz.func226, Tryz.ntmps226
  go_wp2
  exact bodyPost_ret (results_row rfl _ _ w.heap.size 25 _ (0, 0) _ rfl (heap_alloc_new w _) Tryz.underlying25 rfl (by kernel_rfl)) rfl ⟨_, _, [], rfl, ot_atom _ rfl _ _, List.nodup_nil, (Below.refl _ _).alloc (Nat.le_refl _) _⟩
theorem text_value (t : List UInt8) (w : World) : Calls Tryz.prog 227 #[.string ⟨t.toArray⟩] w (VPost ⟨4, 0, t, []⟩ .nil w) := by
  go_enter Tryz.func227, Tryz.ntmps227
  go_wp2
  exact bodyPost_ret (results_row rfl _ _ w.heap.size 25 _ (0, 0) _ rfl (heap_alloc_new w _) Tryz.underlying25 rfl (by kernel_rfl)) rfl ⟨_, _, [], rfl, ot_atom _ rfl _ _, List.nodup_nil, (Below.refl _ _).alloc (Nat.le_refl _) _⟩
/-- What values answers. -/
def VlPost (f : F) (w : World) (x : Ending) (w' : World) : Prop := ∃ v bs, x = .returned v ∧ OL encJ w' w.heap.size 25 9 v f bs ∧ Below w.heap.size w w'
def ValsC (n : Nat) : Prop := ∀ (f : F) (A : Option Addr) (c : Nat) (us : List Value) (S : Nat → Prop) (w : World), f.sz ≤ n → trim f = f → f.len ≤ 4398046511104 → RdS w S 1 A f.len us → TR (encN true) w S f us → (∀ b, S b → b < w.heap.size) →
  Calls Tryz.prog 229 #[.slice A f.len c] w (VlPost f w)
set_option maxHeartbeats 2000000 in
theorem list_value (n : Nat) (hV : ValsC n) (k : F) (A : Option Addr) (c : Nat) (us : List Value) (S : Nat → Prop) (w : World) (hk : k.sz ≤ n) (ht : trim k = k) (hl : k.len ≤ 4398046511104) (hr : RdS w S 1 A k.len us) (htr : TR (encN true) w S k us) (hS : ∀ b, S b → b < w.heap.size) :
    Calls Tryz.prog 228 #[.slice A k.len c] w (VPost (plainH 5) k w) := by
  obtain ⟨wz, hwz⟩ : ∃ wz, wz = w.alloc (.cells #[.int .i64 0, .int .i64 0, .string ⟨#[]⟩, .slice none 0 0, .slice none 0 0] 25) := ⟨_, rfl⟩
  have HC := Lib.hid (hV k A c us S wz hk ht hl (hr.kept fun p hp => by rw [hwz]; exact World.cell?_alloc_lt _ _ _ (hS _ hp)) (htr.kept fun p hp => by rw [hwz]; exact World.cell?_alloc_lt _ _ _ (hS _ hp)) (fun b hb => by rw [hwz]; have := hS b hb; simp; omega))
  have HB : Hid (Blk wz w.heap.size 25 #[.int .i64 0, .int .i64 0, .string ⟨#[]⟩, .slice none 0 0, .slice none 0 0]) := Lib.hid (by rw [hwz]; exact Blk.new _ _ _)
  have HZ : Hid (Below w.heap.size w wz ∧ w.heap.size < wz.heap.size) := Lib.hid (by rw [hwz]; exact ⟨(Below.refl _ _).alloc (Nat.le_refl _) _, by simp⟩)
  have HL := Lib.hid hl
  clear hV hr htr hS hl
  go_enter Tryz.func228, Tryz.ntmps228
  go_wp2_with fail
  rw [← hwz]
  clear hwz
  refine HC.out.mono ?_
  rintro x w1 ⟨v, bs, rfl, hol, hb1⟩
  obtain ⟨A1, c1, rfl⟩ := hol.form
  have HO := Lib.hid hol
  have HB1 := Lib.hid (HB.out.below hb1 HB.out.lt)
  have HZ1 := Lib.hid (HZ.out.1.trans (hb1.mono HZ.out.1.size))
  clear hol hb1 HB
  have f0 := HB1.out.frozen 0
  have f1 := HB1.out.frozen 1
  have f2 := HB1.out.frozen 2
  have f3 := HB1.out.frozen 3
  have f4 := HB1.out.frozen 4
  have c0 := HB1.out.cell 0
  have c1' := HB1.out.cell 1
  have c2 := HB1.out.cell 2
  have c3 := HB1.out.cell 3
  have c4 := HB1.out.cell 4
  go_wp2
  have hol5 := (HO.out.set5 (a0 := .int .i64 5) (a1 := .int .i64 0) (a2 := .string ⟨#[]⟩) (a3 := .slice A1 k.len c1) (a4 := .slice none 0 0) HZ.out.2)
  obtain ⟨ht5, hn5⟩ := (hol5.less (B' := w.heap.size) (by have := HZ.out.2; omega)).list HL.out
  exact bodyPost_ret (results_row rfl _ _ w.heap.size 25 _ (0, 0) _ rfl (blk_set5 HB1.out) Tryz.underlying25 rfl (by kernel_rfl)) rfl ⟨_, _, _, rfl, ht5, hn5, below_set5 HZ1.out (Nat.le_refl _)⟩
set_option maxHeartbeats 2000000 in
set_option maxRecDepth 100000 in
theorem clone_any (A : Option Addr) (n c : Nat) (l : List (List UInt8)) (w : World) (hr : Reads w w.heap.size 1 A n (tx l)) (hn : n ≤ 4398046511104) (hz : n = 0 → A = none ∧ c = 0) :
    Calls Tryz.prog 231 #[.slice A n c] w fun x w' => ∃ v, x = .returned v ∧ w'.ownsRow w.heap.size 9 1 v n (tx l) ∧ Below w.heap.size w w' := by
  obtain ⟨i0, hi, hz0, hz1, hz2⟩ := info_parts infoStr
  by_cases h0 : n = 0
  · obtain ⟨rfl, rfl⟩ := hz h0
    subst h0
    have hl : l = [] := by have := hr.1; rw [tx_length] at this; exact List.eq_nil_of_length_eq_zero (by omega)
    subst hl
    have he := fun wx => Lib.run_eql_slice_nil (P := Tryz.prog) wx 23 9 none 0 0 0 0 Tryz.underlying23
    clear hr hz
    go_enter Tryz.func231, Tryz.ntmps231
    go_wp2
    go_ret
    exact ⟨_, rfl, World.ownsRow_nil _ _ _ _, Below.refl _ _⟩
  · obtain ⟨ad, rfl, _⟩ := hr.2 (by omega)
    have he := fun wx => Lib.run_eql_slice_nil (P := Tryz.prog) wx 23 9 (some ad) n c 0 0 Tryz.underlying23
    have HR := Lib.hid hr
    clear hr hz
    go_enter Tryz.func231, Tryz.ntmps231
    go_wp2_with (at_builtin; refine wpList_append_any _ rfl _ _ 23 rfl w.heap.size 9 i0 (.string .empty) 1 16 Tryz.underlying23 hi hz0 hz1 hz2 rfl (by decide) _ 0 [] rfl ⟨rfl, .inr ⟨w.heap.size, 0, _, rfl, Nat.le_refl _, heap_alloc_new w _, Nat.le_refl _, by unfold maxLen; omega, rfl, rfl⟩⟩ w.heap.size (some ad) n c (tx l) rfl (HR.out.alloc (Nat.le_refl _) _) (by simp [tx, Value.oneCell']) (by unfold maxLen; omega) (by omega) (by simp) ?_)
    intro v' w' h1 h2 h3
    go_wp2
    go_ret
    exact ⟨_, rfl, by simpa using h1, Below.grown ((Below.refl _ _).alloc (Nat.le_refl _) _) h2 (by simp) (fun k hk => by simp [Value.ownBlock] at hk; omega)⟩
set_option maxHeartbeats 4000000 in
set_option maxRecDepth 100000 in
theorem object_value (n : Nat) (hV : ValsC n) (k : F) (ks : List (List UInt8)) (A A' : Option Addr) (c c' : Nat) (us : List Value) (S : Nat → Prop) (w : World) (hk : k.sz ≤ n) (ht : trim k = k) (hl : k.len ≤ 4398046511104) (hr : RdS w S 1 A k.len us) (htr : TR (encN true) w S k us) (hS : ∀ b, S b → b < w.heap.size)
    (m : Nat) (hm : m = ks.length) (hkl : m ≤ 4398046511104) (hkr : RdS w S 1 A' m (tx ks)) (hkn : ks = [] → A' = none ∧ c' = 0) :
    Calls Tryz.prog 230 #[.agg #[.slice A' m c', .slice A k.len c]] w (VPost ⟨6, 0, [], ks⟩ k w) := by
  obtain ⟨wz, hwz⟩ : ∃ wz, wz = ((w.alloc (.cells #[.slice A' m c', .slice A k.len c] 161)).alloc (.cells #[.int .i64 0, .int .i64 0, .string ⟨#[]⟩, .slice none 0 0, .slice none 0 0] 25)).drew := ⟨_, rfl⟩
  have hc : ∀ p : Addr, S p.block → wz.cell? p = w.cell? p := fun p hp => by
    rw [hwz]
    have := hS _ hp
    exact (World.cell?_alloc_lt (w.alloc (.cells #[.slice A' m c', .slice A k.len c] 161)) _ _ (by simp; omega)).trans (World.cell?_alloc_lt _ _ _ this)
  have hs2 : ∀ b, S b → b < wz.heap.size := fun b hb => by rw [hwz]; have := hS b hb; simp; omega
  have HV := Lib.hid (hV k A c us S wz hk ht hl (hr.kept hc) (htr.kept hc) hs2)
  have HRK := Lib.hid ((hkr.kept hc).reads hs2)
  have HCL : Hid (∀ wx, Reads wx wx.heap.size 1 A' m (tx ks) → Calls Tryz.prog 231 #[.slice A' m c'] wx fun x w' => ∃ v, x = .returned v ∧ w'.ownsRow wx.heap.size 9 1 v m (tx ks) ∧ Below wx.heap.size wx w') :=
    Lib.hid fun wx h => clone_any A' m c' ks wx h hkl (fun h0 => hkn (List.eq_nil_of_length_eq_zero (by omega)))
  obtain ⟨gb, hgb⟩ : ∃ gb, gb = w.heap.size := ⟨_, rfl⟩
  have HG : Hid (Blk wz gb 161 #[.slice A' m c', .slice A k.len c]) := Lib.hid (by rw [hwz, hgb]; exact Blk.alloc (Blk.new _ _ _) _)
  have HB : Hid (Blk wz (gb + 1) 25 #[.int .i64 0, .int .i64 0, .string ⟨#[]⟩, .slice none 0 0, .slice none 0 0]) := Lib.hid (by
    have := Blk.new (w.alloc (.cells #[.slice A' m c', .slice A k.len c] 161)) 25 #[.int .i64 0, .int .i64 0, .string ⟨#[]⟩, .slice none 0 0, .slice none 0 0]
    have h2 : Blk ((w.alloc (.cells #[.slice A' m c', .slice A k.len c] 161)).alloc (.cells #[.int .i64 0, .int .i64 0, .string ⟨#[]⟩, .slice none 0 0, .slice none 0 0] 25)) (w.heap.size + 1) 25 #[.int .i64 0, .int .i64 0, .string ⟨#[]⟩, .slice none 0 0, .slice none 0 0] := by simpa using this
    rw [hwz, hgb]; exact h2)
  have HZ : Hid (Below w.heap.size w wz) := Lib.hid (by rw [hwz]; exact (((Below.refl _ _).alloc (Nat.le_refl _) _).alloc (by simp) _).drew)
  have HSZ : Hid (gb + 1 < wz.heap.size) := Lib.hid (by rw [hwz, hgb]; simp)
  have HGE : Hid (gb ≠ gb + 1) := Lib.hid (by omega)
  have HGW : Hid (gb = w.heap.size) := Lib.hid hgb
  have HM : Hid (m = ks.length) := Lib.hid hm
  have HWZ := Lib.hid hwz
  have HL := Lib.hid hl
  have HKL := Lib.hid hkl
  clear hV hr htr hS hkr hkn hc hs2 hl hkl hm hwz hgb
  go_enter Tryz.func230, Tryz.ntmps230
  go_wp2_with fail
  refine wp_region_held_drew (S := (fun wy => wy.cell? ⟨gb, 0, none⟩ = some (.slice A' m c') ∧ wy.cell? ⟨gb, 1, none⟩ = some (.slice A k.len c))) (by kernel_rfl) (by rw [← HWZ.out]; exact ⟨HG.out.cell 0, HG.out.cell 1⟩) (fun hHeld => ?_)
  rw [← HWZ.out] at hHeld ⊢
  rw [← HGW.out]
  refine wpAnyH_take (i := 0) (oi := { dst := some 3, op := Op.fieldAddr 161 (Operand.tmp 1) 1, type := 0, pos := "json.go:36", after := #[], guard := none }) (v := ?_) rfl (by kernel_rfl) (by kernel_rfl) (by kernel_rfl) (fun _ _ _ h => h) (Or.inl ⟨by rfl, ?_⟩) (by assumption) ?_
  rotate_left
  · (intro w hSw; (try dsimp only at hSw); go_simp; try with_reducible rfl)
  try simp only [Act.put, List.setIfInBounds_toArray, List.set_cons_zero, List.set_cons_succ]
  refine wpAnyH_take (i := 3) (oi := { dst := some 6, op := Op.fieldAddr 161 (Operand.tmp 1) 0, type := 0, pos := "json.go:36", after := #[], guard := none }) (v := ?_) rfl (by kernel_rfl) (by kernel_rfl) (by kernel_rfl) (fun _ _ _ h => h) (Or.inl ⟨by rfl, ?_⟩) (by assumption) ?_
  rotate_left
  · (intro w hSw; (try dsimp only at hSw); go_simp; try with_reducible rfl)
  try simp only [Act.put, List.setIfInBounds_toArray, List.set_cons_zero, List.set_cons_succ]
  refine wpAnyH_take (i := 1) (oi := { dst := some 4, op := Op.load 155 (Operand.tmp 3), type := 155, pos := "json.go:36", after := #[{ on := 0, ground := Ground.data }], guard := none }) (v := ?_) rfl (by kernel_rfl) (by kernel_rfl) (by kernel_rfl) (fun _ _ _ h => h) (Or.inl ⟨by rfl, ?_⟩) (by assumption) ?_
  rotate_left
  · (intro w hSw; (try dsimp only at hSw); go_simp; try with_reducible rfl)
  try simp only [Act.put, List.setIfInBounds_toArray, List.set_cons_zero, List.set_cons_succ]
  refine wpAnyH_take (i := 4) (oi := { dst := some 7, op := Op.load 23 (Operand.tmp 6), type := 23, pos := "json.go:36", after := #[{ on := 3, ground := Ground.data }], guard := none }) (v := ?_) rfl (by kernel_rfl) (by kernel_rfl) (by kernel_rfl) (fun _ _ _ h => h) (Or.inl ⟨by rfl, ?_⟩) (by assumption) ?_
  rotate_left
  · (intro w hSw; (try dsimp only at hSw); go_simp; try with_reducible rfl)
  try simp only [Act.put, List.setIfInBounds_toArray, List.set_cons_zero, List.set_cons_succ]
  refine wpAnyH_ready (rs := [2]) (by kernel_rfl) (by simp) ?_
  refine AllReadyH.cons (o := { dst := some 5, op := Op.call { callee := Callee.value (Operand.func 229), args := #[Operand.tmp 4], argTypes := #[155] }, type := 22, pos := "json.go:36", after := #[{ on := 1, ground := Ground.data }], guard := none }) rfl (fun K hK => ?_) AllReadyH.nil
  rw [if_pos (by rfl)]
  go_simp
  refine HV.out.mono ?_
  rintro x w1 ⟨v, bs, rfl, hol, hb1⟩
  obtain ⟨A1, c1, rfl⟩ := hol.form
  have HO := Lib.hid hol
  have HB1 := Lib.hid (HB.out.below hb1 HB.out.lt)
  have HG1 := Lib.hid (HG.out.below hb1 HG.out.lt)
  have HZ1 := Lib.hid (HZ.out.trans (hb1.mono HZ.out.size))
  have HRK1 := Lib.hid ((HRK.out.below hb1).more hb1.size)
  have hz1 := hb1.size
  refine hK.out _ _ ⟨HG1.out.cell 0, HG1.out.cell 1⟩ (fun _ => ?_)
  clear hK hol hb1 HB HG HZ HRK
  try simp only [Act.put, List.setIfInBounds_toArray, List.set_cons_zero, List.set_cons_succ]
  refine wpAnyH_ready (rs := [5]) (by kernel_rfl) (by simp) ?_
  refine AllReadyH.cons (o := { dst := some 8, op := Op.call { callee := Callee.value (Operand.func 231), args := #[Operand.tmp 7], argTypes := #[23] }, type := 23, pos := "json.go:36", after := #[{ on := 4, ground := Ground.data }, { on := 2, ground := Ground.chain }], guard := none }) rfl (fun K hK => ?_) AllReadyH.nil
  rw [if_pos (by rfl)]
  go_simp
  refine (HCL.out _ HRK1.out).mono ?_
  rintro x w2 ⟨kv, rfl, hkv, hb2⟩
  obtain ⟨A2, c2, rfl, _⟩ := own_readsN hkv
  have HKV := Lib.hid hkv
  have HO2 := Lib.hid (HO.out.below hb2)
  have HB2 := Lib.hid (HB1.out.below hb2 HB1.out.lt)
  have HG2 := Lib.hid (HG1.out.below hb2 HG1.out.lt)
  have HZ2 := Lib.hid (HZ1.out.trans (hb2.mono HZ1.out.size))
  have HLT : Hid (∀ b ∈ ob (.slice A1 k.len c1) ++ bs, b < w1.heap.size) := Lib.hid (fun b hb => by
    obtain ⟨vs, ho, ht, _⟩ := HO.out
    rcases List.mem_append.1 hb with h | h
    · exact (ob_lt ho h).2
    · exact (ht.lt b h).2)
  refine hK.out _ _ ⟨HG2.out.cell 0, HG2.out.cell 1⟩ (fun _ => ?_)
  clear hK hkv hb2 HO HB1 HG1 HZ1 HRK1
  have f0 := HB2.out.frozen 0
  have f1 := HB2.out.frozen 1
  have f2 := HB2.out.frozen 2
  have f3 := HB2.out.frozen 3
  have f4 := HB2.out.frozen 4
  have c0' := HB2.out.cell 0
  have c1' := HB2.out.cell 1
  have c2' := HB2.out.cell 2
  have c3' := HB2.out.cell 3
  have c4' := HB2.out.cell 4
  try simp only [Act.put, List.setIfInBounds_toArray, List.set_cons_zero, List.set_cons_succ]
  refine wpAnyH_take (i := 6) (oi := { dst := some 9, op := Op.build 25 #[(0, Operand.const (Value.int IntKind.i64 6)), (3, Operand.tmp 5), (4, Operand.tmp 8)], type := 25, pos := "json.go:36", after := #[{ on := 2, ground := Ground.data }, { on := 5, ground := Ground.data }], guard := none }) (v := ?_) rfl (by kernel_rfl) (by kernel_rfl) (by kernel_rfl) (fun _ _ _ h => h) (Or.inl ⟨by rfl, ?_⟩) (by assumption) ?_
  rotate_left
  · (intro w hSw; (try dsimp only at hSw); go_simp; try with_reducible rfl)
  try simp only [Act.put, List.setIfInBounds_toArray, List.set_cons_zero, List.set_cons_succ]
  refine wpAnyH_ready (rs := [7]) (by kernel_rfl) (by simp) ?_
  refine AllReadyH.cons (o := { dst := none, op := Op.store 25 (Operand.tmp 2) (Operand.tmp 9), type := 0, pos := "json.go:36", after := #[{ on := 6, ground := Ground.data }, { on := 5, ground := Ground.chain }, { on := 0, ground := Ground.phase }, { on := 1, ground := Ground.phase }, { on := 2, ground := Ground.phase }, { on := 3, ground := Ground.phase }, { on := 4, ground := Ground.phase }, { on := 5, ground := Ground.phase }, { on := 6, ground := Ground.phase }], guard := none }) rfl (fun K hK => ?_) AllReadyH.nil
  rw [if_pos (by rfl)]
  go_simp
  refine hK.out _ _ ⟨(blk_far5 HG2.out HGE.out).cell 0, (blk_far5 HG2.out HGE.out).cell 1⟩ (fun _ => ?_)
  clear hK f0 f1 f2 f3 f4 c0' c1' c2' c3' c4'
  try simp only [Act.put, List.setIfInBounds_toArray, List.set_cons_zero, List.set_cons_succ]
  refine wpAnyH_done (by kernel_rfl) ?_ _
  go_wp2
  obtain rfl := HM.out
  have hzz := HZ2.out.size
  have hgw := HGW.out
  have hsz := HSZ.out
  have hol5 := (HO2.out.set5 (a0 := .int .i64 6) (a1 := .int .i64 0) (a2 := .string ⟨#[]⟩) (a3 := .slice A1 k.len c1) (a4 := .slice A2 ks.length c2) HSZ.out)
  have hkv5 := own_at (w' := st5 w2 (gb + 1) (.int .i64 6) (.int .i64 0) (.string ⟨#[]⟩) (.slice A1 k.len c1) (.slice A2 ks.length c2)) HKV.out (fun b hb => heap_set5 b (by have := (own_lt HKV.out hb).1; omega))
  obtain ⟨ht5, hn5⟩ := (hol5.less (B' := w.heap.size) (by omega)).obj HL.out HKL.out hkv5 (by omega) HLT.out
  exact bodyPost_ret (results_row rfl _ _ (gb + 1) 25 _ (0, 0) _ rfl (blk_set5 HB2.out) Tryz.underlying25 rfl (by kernel_rfl)) rfl ⟨_, _, _, rfl, ht5, hn5, below_set5 HZ2.out (by omega)⟩
/-- What a node is, of a tree that has nothing beside what its kinds have. -/
theorem node_cases {w : World} {S : Nat → Prop} {h : Hd} {k : F} {u : Value} (hv : TV (encN true) w S h k [u]) (h1 : trimH h = h) (h2 : trimK h k = k) :
    (∃ z : Int, u = .iface 152 (.int .i64 z) ∧ h = plainH z ∧ k = .nil) ∨ (∃ z : Int, u = .iface 153 (.int .i64 z) ∧ h = ⟨3, z, [], []⟩ ∧ k = .nil) ∨ (∃ t : List UInt8, u = .iface 154 (.string ⟨t.toArray⟩) ∧ h = ⟨4, 0, t, []⟩ ∧ k = .nil) ∨
    (∃ A c us, u = .iface 158 (.slice A k.len c) ∧ h = plainH 5 ∧ trim k = k ∧ k.len ≤ 4398046511104 ∧ RdS w S 1 A k.len us ∧ TR (encN true) w S k us) ∨
    (∃ A c us A' c' ks, u = .iface 161 (.agg #[.slice A' ks.length c', .slice A k.len c]) ∧ h = ⟨6, 0, [], ks⟩ ∧ trim k = k ∧ k.len ≤ 4398046511104 ∧ ks.length ≤ 4398046511104 ∧ (ks = [] → A' = none ∧ c' = 0) ∧ RdS w S 1 A k.len us ∧ TR (encN true) w S k us ∧ RdS w S 1 A' ks.length (tx ks)) := by
  obtain ⟨A, c, A', c', us, e, l1, ⟨l2, l3⟩, r1, r2, r3⟩ := hv
  simp only [encN, List.cons.injEq, and_true] at e
  obtain ⟨kd, num, text, keys⟩ := h
  unfold trimK at h2
  unfold nodeV at e
  simp only at e h2
  by_cases k3 : kd = 3
  · subst k3
    have h1' : (⟨3, num, [], []⟩ : Hd) = ⟨3, num, text, keys⟩ := h1
    exact .inr (.inl ⟨num, by simpa using e, h1'.symm, h2.symm⟩)
  by_cases k4 : kd = 4
  · subst k4
    have h1' : (⟨4, 0, text, []⟩ : Hd) = ⟨4, num, text, keys⟩ := h1
    exact .inr (.inr (.inl ⟨text, by simpa using e, h1'.symm, h2.symm⟩))
  by_cases k5 : kd = 5
  · subst k5
    have h1' : plainH 5 = ⟨5, num, text, keys⟩ := h1
    exact .inr (.inr (.inr (.inl ⟨A, c, us, by simpa using e, h1'.symm, h2, l1, r1, r2⟩)))
  by_cases k6 : kd = 6
  · subst k6
    have h1' : (⟨6, 0, [], keys⟩ : Hd) = ⟨6, num, text, keys⟩ := h1
    exact .inr (.inr (.inr (.inr ⟨A, c, us, A', c', keys, by simpa using e, h1'.symm, h2, l1, l2, l3 rfl, r1, r2, r3⟩)))
  · rw [if_neg k3, if_neg k4, if_neg k5, if_neg k6] at e
    have h1' : plainH kd = ⟨kd, num, text, keys⟩ := by
      have h3 := h1
      unfold trimH at h3
      rw [if_neg k3, if_neg k4, if_neg k6] at h3
      exact h3
    exact .inl ⟨kd, e, h1'.symm, by rw [if_neg (by omega)] at h2; exact h2.symm⟩
-- >
end Js
end Go.Proofs.YtlfeddgpfaigkaaGreatDoor
