/-
  How pieces lie at package expand; the walk of the closure that lays bytes that stand as they are.
-/
import Derived.Test.YtnmnhnhlggbijaaDoorExpW
import Derived.Deep.RegionHeld3
import Derived.Test.YtnmnhnhlggbijaaDoorQLast
import Derived.Deep.DeepCutAuto
import Derived.OwnWalk
namespace Go.Proofs.YtnmnhnhlggbijaaDoor
open Go.RowKit
namespace Exp
open T

def litV (u : List UInt8) : Value := .iface 100 (.string ⟨u.toArray⟩)
def varV (n : List UInt8) (o : UInt8) (A : Option Addr) (m c : Nat) : Value := .iface 130 (.agg #[.string ⟨n.toArray⟩, .int .u8 o.toNat, .slice A m c])
/-- Pieces as package expand lays them. -/
def encP : Enc where
  sz := 1
  L u := [litV u]
  V n o A m c := [varV n o A m c]
  lenL _ := rfl
  lenV _ _ _ _ _ := rfl
  oneL u x hx := by simp at hx; subst hx; rfl
  oneV n o A m c x hx := by simp at hx; subst hx; rfl
theorem infoPiece : (Tryd.prog.info? 62).map (fun i => (i.zero, i.size, i.bytes)) = some (some .nilIface, 1, 16) := by kernel_rfl
/-- A list of package expand's pieces, of the call's own. -/
abbrev PP (w : World) (B : Nat) (v : Value) (t : T) (n : Nat) : Prop := PL encP w B 62 v t n
theorem Pcs.one_lit (w : World) (S : Nat → Prop) (u : List UInt8) : Pcs encP w S (lits u .nil) [litV u] 1 := Pcs.lit (E := encP) u .nil

section
variable {w : World} {ops : Array Oper} {o : Oper} {a : Act} {K : Act → World → Prop} {Q : Exit → Act → World → Prop} {E : Prop}
/-- Pieces appended to a list of the call's own. -/
theorem step_push (hgd : o.guard = none) (s x : Operand) (ho : o.op = .call { callee := .builtin .append, args := #[s, x], argTypes := #[58, 58] })
    (B B' : Nat) (v : Value) (t : T) (n : Nat) (hs : a.eval s = v) (hP : PP w B v t n)
    (A : Option Addr) (m c : Nat) (news : List Value) (hx : a.eval x = .slice A m c) (hr : Reads w B' 1 A m news) (S2 : Nat → Prop) (t2 : T) (hp2 : Pcs encP w S2 t2 news m) (hS2 : ∀ b, S2 b → B ≤ b ∧ b < w.heap.size ∧ v.ownBlock ≠ some b)
    (hn : n + m ≤ 8796093022207) (hB : B ≤ w.heap.size)
    (h : ∀ v' w', PP w' B v' (t.app t2) (n + m) → Kp B (fun _ => False) w w' → K (a.put o.dst v') w') : if Region.wanted o (yielded ops a.tmps) = true then Oper.wp Tryd.prog o a w K Q else E := by
  obtain ⟨i0, hi, hz0, hz1, hz2⟩ := info_parts infoPiece
  obtain ⟨S, vs, hown, hp, hS⟩ := hP
  refine step_append_any (P := Tryd.prog) w hgd s x 58 ho B 62 i0 .nilIface 1 16 Tryd.underlying58 hi hz0 hz1 hz2 rfl (by decide) v n vs hs hown B' A m c news hx hr hp2.one (by unfold maxLen; omega) (by omega) hB fun v' w' h1 h2 h3 => h v' w' ?_ ?_
  · exact PL.push (E := encP) hp hS hp2 hS2 h1 h2 h3
  · exact (Kp.refl _ _ _).grown h2 hB (fun k hk => .inl (hown.lt k hk).1)
end
theorem wpList_push {w : World} {ops : Array Oper} {rest : List Oper} {o : Oper} {a : Act} {Q : Exit → Act → World → Prop} (hgd : o.guard = none) (s x : Operand) (ho : o.op = .call { callee := .builtin .append, args := #[s, x], argTypes := #[58, 58] })
    (B B' : Nat) (v : Value) (t : T) (n : Nat) (hs : a.eval s = v) (hP : PP w B v t n)
    (A : Option Addr) (m c : Nat) (news : List Value) (hx : a.eval x = .slice A m c) (hr : Reads w B' 1 A m news) (S2 : Nat → Prop) (t2 : T) (hp2 : Pcs encP w S2 t2 news m) (hS2 : ∀ b, S2 b → B ≤ b ∧ b < w.heap.size ∧ v.ownBlock ≠ some b)
    (hn : n + m ≤ 8796093022207) (hB : B ≤ w.heap.size)
    (h : ∀ v' w', PP w' B v' (t.app t2) (n + m) → Kp B (fun _ => False) w w' → wpList Tryd.prog ops Q rest (a.put o.dst v') w') : wpList Tryd.prog ops Q (o :: rest) a w := by
  obtain ⟨i0, hi, hz0, hz1, hz2⟩ := info_parts infoPiece
  obtain ⟨S, vs, hown, hp, hS⟩ := hP
  refine wpList_append_any (P := Tryd.prog) w hgd s x 58 ho B 62 i0 .nilIface 1 16 Tryd.underlying58 hi hz0 hz1 hz2 rfl (by decide) v n vs hs hown B' A m c news hx hr hp2.one (by unfold maxLen; omega) (by omega) hB fun v' w' h1 h2 h3 => h v' w' ?_ ?_
  · exact PL.push (E := encP) hp hS hp2 hS2 h1 h2 h3
  · exact (Kp.refl _ _ _).grown h2 hB (fun k hk => .inl (hown.lt k hk).1)
theorem Reads.one {w : World} {g : Nat} {u : Value} (h : w.cell? ⟨g, 0, none⟩ = some u) (hg : g < w.heap.size) : Reads w w.heap.size 1 (some ⟨g, 0, none⟩) 1 [u] :=
  ⟨rfl, fun _ => ⟨_, rfl, hg, fun j x hx => by
    match j, hx with
    | 0, hx => simp at hx; subst hx; exact h⟩⟩
theorem cell_new1 (w : World) (u : Value) (t : TypeId) : (w.alloc (.cells #[u] t)).cell? ⟨w.heap.size, 0, none⟩ = some u := cell_of_row _ _ 0 _ t (0, 0) (heap_alloc_new w _)

/-- What tell leaves: the bytes that stand as they are are laid behind the list. -/
def TellPost (w : World) (B b6 : Nat) (t : T) (u : List UInt8) (n m : Nat) (x : Ending) (w' : World) : Prop :=
  x = .returned (.tuple #[]) ∧ ∃ v' n', Blk w' b6 58 #[v'] ∧ PP w' B v' (t.app (lits u .nil)) n' ∧ n' ≤ n + m ∧ Kp B (· = b6) w w'
set_option maxHeartbeats 4000000 in
set_option maxRecDepth 100000 in
theorem tell_any (s : List UInt8) (e : UInt8) (p f rb b2 b6 b7 B : Nat) (v : Value) (t : T) (n : Nat) (w : World) (h2 : Blk w b2 55 #[.pointer (some ⟨rb, 0, none⟩)]) (hr : Rdr w rb s p e)
    (h6 : Blk w b6 58 #[v]) (h7 : Blk w b7 3 #[.int .i64 f]) (hP : PP w B v t n) (hBw : B ≤ w.heap.size) (h6B : b6 < B) (h2B : b2 < B) (h7B : b7 < B) (hrB : rb < B) (hf : f ≤ p) (hp : p ≤ s.length) (hn : n ≤ 4398046511104) :
    Calls Tryd.prog 48 #[.pointer (some ⟨b2, 0, none⟩), .pointer (some ⟨b7, 0, none⟩), .pointer (some ⟨b6, 0, none⟩)] w (TellPost w B b6 t (cut s f p) n (p - f)) := by
  have k2 := h2.cell 0
  have k7 := h7.cell 0
  have k6 := h6.cell 0
  have f6 := h6.frozen 0
  have k0 := hr.c0
  have k1 := hr.c1
  simp only [List.getElem?_toArray, List.getElem?_cons_zero] at k2 k7 k6
  have HP := Lib.hid hP
  have H6 := Lib.hid h6
  have HN : Hid (¬ b2 = b6 ∧ ¬ b7 = b6 ∧ ¬ rb = b6) := Lib.hid ⟨h2.ne_ h6 (by decide), h7.ne_ h6 (by decide), Blk.ne_ hr h6 (by decide)⟩
  clear hP h2 h7 h6 hr
  by_cases hfp : f < p
  · have hsl := fun wx => run_slice_list Tryd.underlying9 s .i64 .i64 (f : Int) (p : Int) f p rfl rfl (by omega) (by omega) wx
    rw [show (s.drop f).take (p - f) = cut s f p from rfl] at hsl
    generalize cut s f p = u at hsl
    have q1 : decide ((f : Int) < (p : Int)) = true := by simpa using hfp
    go_enter Tryd.func48, Tryd.ntmps48
    go_wp2_with fail
    go_quiet (fail)
    have HPd : Hid (PP (w.drewN nq).drew B v t n) := Lib.hid (HP.out.drewN _).drew
    have HKd : Hid (Kp B (fun _ => False) w (w.drewN nq).drew) := Lib.hid (((Kp.refl _ _ _).drewN _).drew)
    have H6d : Hid (Blk (w.drewN nq).drew b6 58 #[v]) := Lib.hid H6.out
    have hBd : B ≤ (w.drewN nq).drew.heap.size := hBw
    have HS : Hid (∀ wy, Kp B (fun _ => False) (w.drewN nq).drew wy → wy.cell? ⟨b6, 0, none⟩ = some v ∧ wy.cell? ⟨b2, 0, none⟩ = some (.pointer (some ⟨rb, 0, none⟩)) ∧ wy.cell? ⟨b7, 0, none⟩ = some (.int .i64 f) ∧ wy.cell? ⟨rb, 0, none⟩ = some (.string ⟨s.toArray⟩) ∧ wy.cell? ⟨rb, 1, none⟩ = some (.int .i64 p) ∧ wy.frozen? ⟨b6, 0, none⟩ = false) := Lib.hid (fun wy hy =>
      ⟨(hy.cell (p := ⟨b6, 0, none⟩) h6B id).trans k6, (hy.cell (p := ⟨b2, 0, none⟩) h2B id).trans k2, (hy.cell (p := ⟨b7, 0, none⟩) h7B id).trans k7, (hy.cell (p := ⟨rb, 0, none⟩) hrB id).trans k0, (hy.cell (p := ⟨rb, 1, none⟩) hrB id).trans k1, (hy.blk H6d.out h6B id).frozen 0⟩)
    clear k2 k7 f6 k0 k1 k6 HP H6
    generalize w.drewN nq = w1 at HPd HKd H6d hBd HS ⊢
    go_wp2_with fail
    refine wp_region_R (S := (fun wy => wy.cell? ⟨b6, 0, none⟩ = some v ∧ wy.cell? ⟨b2, 0, none⟩ = some (.pointer (some ⟨rb, 0, none⟩)) ∧ wy.cell? ⟨b7, 0, none⟩ = some (.int .i64 f) ∧ wy.cell? ⟨rb, 0, none⟩ = some (.string ⟨s.toArray⟩) ∧ wy.cell? ⟨rb, 1, none⟩ = some (.int .i64 p) ∧ wy.frozen? ⟨b6, 0, none⟩ = false)) 14 (by kernel_rfl) (HS.out _ (Kp.refl _ _ _)) (fun hHeld => ?_)
    refine wpAnyR_take (i := 0) (oi := { dst := some 9, op := Op.load 58 (Operand.tmp 2), type := 58, pos := "expand.go:91", after := #[], guard := none }) (v := _) (by kernel_rfl) rfl (by kernel_rfl) (by kernel_rfl) (by kernel_rfl) (fun _ _ _ h => h) (Or.inl ⟨by rfl, by intro w hSw; (try dsimp only at hSw); go_simp <;> with_reducible rfl⟩) (by assumption) ?_
    try simp only [Act.put, List.setIfInBounds_toArray, List.set_cons_zero, List.set_cons_succ]
    refine wpAnyR_take (i := 1) (oi := { dst := some 10, op := Op.load 55 (Operand.tmp 0), type := 55, pos := "expand.go:91", after := #[], guard := none }) (v := _) (by kernel_rfl) rfl (by kernel_rfl) (by kernel_rfl) (by kernel_rfl) (fun _ _ _ h => h) (Or.inl ⟨by rfl, by intro w hSw; (try dsimp only at hSw); go_simp <;> with_reducible rfl⟩) (by assumption) ?_
    try simp only [Act.put, List.setIfInBounds_toArray, List.set_cons_zero, List.set_cons_succ]
    refine wpAnyR_take (i := 2) (oi := { dst := some 11, op := Op.nilCheck (Operand.tmp 10), type := 0, pos := "expand.go:91", after := #[{ on := 1, ground := Ground.data }], guard := none }) (v := _) (by kernel_rfl) rfl (by kernel_rfl) (by kernel_rfl) (by kernel_rfl) (fun _ _ _ h => h) (Or.inl ⟨by rfl, by intro w hSw; (try dsimp only at hSw); go_simp <;> with_reducible rfl⟩) (by assumption) ?_
    try simp only [Act.put, List.setIfInBounds_toArray, List.set_cons_zero, List.set_cons_succ]
    refine wpAnyR_take (i := 3) (oi := { dst := some 12, op := Op.fieldAddr 57 (Operand.tmp 11) 0, type := 0, pos := "expand.go:91", after := #[{ on := 2, ground := Ground.data }], guard := none }) (v := _) (by kernel_rfl) rfl (by kernel_rfl) (by kernel_rfl) (by kernel_rfl) (fun _ _ _ h => h) (Or.inl ⟨by rfl, by intro w hSw; (try dsimp only at hSw); go_simp <;> with_reducible rfl⟩) (by assumption) ?_
    try simp only [Act.put, List.setIfInBounds_toArray, List.set_cons_zero, List.set_cons_succ]
    refine wpAnyR_take (i := 4) (oi := { dst := some 13, op := Op.load 9 (Operand.tmp 12), type := 9, pos := "expand.go:91", after := #[{ on := 3, ground := Ground.data }], guard := none }) (v := _) (by kernel_rfl) rfl (by kernel_rfl) (by kernel_rfl) (by kernel_rfl) (fun _ _ _ h => h) (Or.inl ⟨by rfl, by intro w hSw; (try dsimp only at hSw); go_simp <;> with_reducible rfl⟩) (by assumption) ?_
    try simp only [Act.put, List.setIfInBounds_toArray, List.set_cons_zero, List.set_cons_succ]
    refine wpAnyR_take (i := 5) (oi := { dst := some 14, op := Op.load 3 (Operand.tmp 1), type := 3, pos := "expand.go:91", after := #[], guard := none }) (v := _) (by kernel_rfl) rfl (by kernel_rfl) (by kernel_rfl) (by kernel_rfl) (fun _ _ _ h => h) (Or.inl ⟨by rfl, by intro w hSw; (try dsimp only at hSw); go_simp <;> with_reducible rfl⟩) (by assumption) ?_
    try simp only [Act.put, List.setIfInBounds_toArray, List.set_cons_zero, List.set_cons_succ]
    refine wpAnyR_take (i := 6) (oi := { dst := some 15, op := Op.load 55 (Operand.tmp 0), type := 55, pos := "expand.go:91", after := #[], guard := none }) (v := _) (by kernel_rfl) rfl (by kernel_rfl) (by kernel_rfl) (by kernel_rfl) (fun _ _ _ h => h) (Or.inl ⟨by rfl, by intro w hSw; (try dsimp only at hSw); go_simp <;> with_reducible rfl⟩) (by assumption) ?_
    try simp only [Act.put, List.setIfInBounds_toArray, List.set_cons_zero, List.set_cons_succ]
    refine wpAnyR_take (i := 7) (oi := { dst := some 16, op := Op.nilCheck (Operand.tmp 15), type := 0, pos := "expand.go:91", after := #[{ on := 6, ground := Ground.data }], guard := none }) (v := _) (by kernel_rfl) rfl (by kernel_rfl) (by kernel_rfl) (by kernel_rfl) (fun _ _ _ h => h) (Or.inl ⟨by rfl, by intro w hSw; (try dsimp only at hSw); go_simp <;> with_reducible rfl⟩) (by assumption) ?_
    try simp only [Act.put, List.setIfInBounds_toArray, List.set_cons_zero, List.set_cons_succ]
    refine wpAnyR_take (i := 8) (oi := { dst := some 17, op := Op.fieldAddr 57 (Operand.tmp 16) 1, type := 0, pos := "expand.go:91", after := #[{ on := 7, ground := Ground.data }], guard := none }) (v := _) (by kernel_rfl) rfl (by kernel_rfl) (by kernel_rfl) (by kernel_rfl) (fun _ _ _ h => h) (Or.inl ⟨by rfl, by intro w hSw; (try dsimp only at hSw); go_simp <;> with_reducible rfl⟩) (by assumption) ?_
    try simp only [Act.put, List.setIfInBounds_toArray, List.set_cons_zero, List.set_cons_succ]
    refine wpAnyR_take (i := 9) (oi := { dst := some 18, op := Op.load 3 (Operand.tmp 17), type := 3, pos := "expand.go:91", after := #[{ on := 8, ground := Ground.data }], guard := none }) (v := _) (by kernel_rfl) rfl (by kernel_rfl) (by kernel_rfl) (by kernel_rfl) (fun _ _ _ h => h) (Or.inl ⟨by rfl, by intro w hSw; (try dsimp only at hSw); go_simp <;> with_reducible rfl⟩) (by assumption) ?_
    try simp only [Act.put, List.setIfInBounds_toArray, List.set_cons_zero, List.set_cons_succ]
    refine wpAnyR_take (i := 10) (oi := { dst := some 19, op := Op.slice 9 (Operand.tmp 13) (some (Operand.tmp 14)) (some (Operand.tmp 18)) none, type := 9, pos := "expand.go:91", after := #[{ on := 4, ground := Ground.data }, { on := 5, ground := Ground.data }, { on := 9, ground := Ground.data }], guard := none }) (v := _) (by kernel_rfl) rfl (by kernel_rfl) (by kernel_rfl) (by kernel_rfl) (fun _ _ _ h => h) (Or.inl ⟨by rfl, by intro w hSw; (try dsimp only at hSw); go_simp <;> with_reducible rfl⟩) (by assumption) ?_
    try simp only [Act.put, List.setIfInBounds_toArray, List.set_cons_zero, List.set_cons_succ]
    refine wpAnyR_take (i := 11) (oi := { dst := some 20, op := Op.makeInterface 100 (Operand.tmp 19), type := 62, pos := "expand.go:91", after := #[{ on := 10, ground := Ground.data }], guard := none }) (v := _) (by kernel_rfl) rfl (by kernel_rfl) (by kernel_rfl) (by kernel_rfl) (fun _ _ _ h => h) (Or.inl ⟨by rfl, by intro w hSw; (try dsimp only at hSw); go_simp <;> with_reducible rfl⟩) (by assumption) ?_
    try simp only [Act.put, List.setIfInBounds_toArray, List.set_cons_zero, List.set_cons_succ]
    refine wpAnyR_one (i := 12) (o := { dst := some 21, op := Op.buildSlice 58 1 #[(0, Operand.tmp 20)], type := 58, pos := "expand.go:91", after := #[{ on := 11, ground := Ground.data }], guard := none }) (by kernel_rfl) rfl (fun K hK => ?_)
    rw [if_pos (by rfl)]
    go_simp
    refine hK.out _ _ (fun _ => HS.out _ ((Kp.refl _ _ _).alloc hBd _)) (fun hHeld => ?_)
    try simp only [Act.put, List.setIfInBounds_toArray, List.set_cons_zero, List.set_cons_succ]
    refine wpAnyR_one (i := 13) (o := { dst := some 22, op := Op.call { callee := Callee.builtin Builtin.append, args := #[Operand.tmp 9, Operand.tmp 21], argTypes := #[58, 58] }, type := 58, pos := "expand.go:91", after := #[{ on := 0, ground := Ground.data }, { on := 12, ground := Ground.data }], guard := none }) (by kernel_rfl) rfl (fun K hK => ?_)
    refine step_push rfl _ _ rfl B _ v t n rfl (HPd.out.alloc _) _ 1 1 [litV u] rfl (Reads.one (cell_new1 _ _ _) (by simp)) (fun _ => False) _ (Pcs.one_lit _ _ u) (fun _ h => h.elim) (by omega) (by have := hBd; simp at this ⊢; omega) ?_
    intro v1 w3 hP3 hK3
    obtain ⟨A1, c1, rfl⟩ := hP3.form
    refine hK.out _ _ (fun _ => HS.out _ (((Kp.refl _ _ _).alloc hBd _).trans hK3)) (fun hHeld => ?_)
    have hh := hHeld (by decide)
    obtain ⟨k6, _, _, _, _, f6⟩ := hh
    try simp only [Act.put, List.setIfInBounds_toArray, List.set_cons_zero, List.set_cons_succ]
    refine wpAnyR_one (i := 14) (o := { dst := none, op := Op.store 58 (Operand.tmp 2) (Operand.tmp 22), type := 0, pos := "expand.go:91", after := #[{ on := 13, ground := Ground.data }, { on := 13, ground := Ground.chain }, { on := 0, ground := Ground.phase }, { on := 1, ground := Ground.phase }, { on := 2, ground := Ground.phase }, { on := 3, ground := Ground.phase }, { on := 4, ground := Ground.phase }, { on := 5, ground := Ground.phase }, { on := 6, ground := Ground.phase }, { on := 7, ground := Ground.phase }, { on := 8, ground := Ground.phase }, { on := 9, ground := Ground.phase }, { on := 10, ground := Ground.phase }, { on := 11, ground := Ground.phase }, { on := 12, ground := Ground.phase }, { on := 13, ground := Ground.phase }], guard := none }) (by kernel_rfl) rfl (fun K hK => ?_)
    rw [if_pos (by rfl)]
    go_simp
    refine hK.out _ _ (fun h => absurd rfl h) (fun _ => ?_)
    try simp only [Act.put, List.setIfInBounds_toArray, List.set_cons_zero, List.set_cons_succ]
    refine wpAnyR_done (by kernel_rfl) ?_ _
    all_goals
      go_wp2
      go_end0
      have hk := (HKd.out.alloc hBd _).trans hK3
      refine ⟨rfl, _, n + 1, ?_, hP3.setCell h6B _, by omega, Kp.setCell (X := (· = b6)) (p := ⟨b6, 0, none⟩) (hk.mono (Nat.le_refl _) (fun _ _ h => h.elim)) (.inr rfl) _⟩
      have h6 := (((Kp.refl B (fun _ => False) _).alloc hBd _).trans hK3).blk H6d.out h6B id
      exact h6.set_ 0 _
  · obtain rfl : f = p := by omega
    have HE : Hid (∀ k, TellPost w B b6 t (cut s f f) n (f - f) (.returned (.tuple #[])) (w.drewN k)) := Lib.hid fun k =>
      ⟨rfl, v, n, H6.out, by rw [cut_nil]; simpa [lits] using HP.out.drewN k, by omega, (Kp.refl _ _ _).drewN k⟩
    have q1 : decide ((f : Int) < (f : Int)) = false := by simp
    go_enter Tryd.func48, Tryd.ntmps48
    go_wp2_with fail
    go_quiet (fail)
    go_wp2
    go_end0
    exact HE.out _
end Exp
end Go.Proofs.YtnmnhnhlggbijaaDoor
