/-
  The walks of stratalaw15's closed statement ExpandKnown at this seat's translation: the examples, all short texts, each byte in each place, sizes, braces in one another.
-/
import Derived.Test.YtnmnhnhlggbijaaDoorExK
import Derived.IntWalk
import Derived.Deep.RegionWith
namespace Go.Proofs.YtnmnhnhlggbijaaDoor
open Go.RowKit Err
namespace Exp
open T

theorem word_k0 {w wx : World} {b : Nat} {s v : List UInt8} (hs : s.length ≤ 1000) (hO : ∃ O, Rd 92 .plain s O ∧ told (valOf varsL) O = (v, 0)) (h : Kn w wx) (hv : VR wx b) :
    Calls Tryd.prog 10 #[.string ⟨s.toArray⟩, .int .u8 92, .slice (some ⟨b, 0, none⟩) 6 6] wx fun x w' => x = .returned (.tuple #[.string ⟨v.toArray⟩, .nilIface]) ∧ Kn w w' ∧ Kn wx w' :=
  (word_k hs hO h hv).mono fun _ _ h => h
theorem word_kb {w wx : World} {b : Nat} {s : List UInt8} {no : Nat} (hs : s.length ≤ 1000) (hO : ∃ O, Rd 92 .plain s O ∧ told (valOf varsL) O = ([], no)) (h : Kn w wx) (hv : VR wx b) :
    Calls Tryd.prog 10 #[.string ⟨s.toArray⟩, .int .u8 92, .slice (some ⟨b, 0, none⟩) 6 6] wx fun x w' => x = .returned (.tuple #[.string ⟨#[]⟩, errV no]) ∧ Kn w w' ∧ Kn wx w' :=
  (word_k hs hO h hv).mono fun _ _ h => h
def pn (l : List (List UInt8 × Nat)) : List Value := l.flatMap fun p => [.string ⟨p.1.toArray⟩, .int .i64 p.2]
theorem pn_get {l : List (List UInt8 × Nat)} {k : Nat} (h : k < l.length) : (pn l)[k * 2]? = some (.string ⟨(l.getD k ([], 0)).1.toArray⟩) ∧ (pn l)[k * 2 + 1]? = some (.int .i64 (l.getD k ([], 0)).2) := by
  induction l generalizing k with
  | nil => simp at h
  | cons x l ih =>
    have e : pn (x :: l) = .string ⟨x.1.toArray⟩ :: .int .i64 x.2 :: pn l := by simp [pn]
    rw [e]
    cases k with
    | zero => simp
    | succ k =>
      have := ih (by simpa using h : k < l.length)
      rw [show (k + 1) * 2 = k * 2 + 2 by omega]
      simpa using this
theorem pn_length (l : List (List UInt8 × Nat)) : (pn l).length = l.length * 2 := by
  induction l with
  | nil => rfl
  | cons x l ih =>
    have e : pn (x :: l) = .string ⟨x.1.toArray⟩ :: .int .i64 x.2 :: pn l := by simp [pn]
    rw [e, List.length_cons, List.length_cons, ih, List.length_cons]; omega
theorem at_pn {w : World} {B n : Nat} {A : Option Addr} {l : List (List UInt8 × Nat)} (h : Reads w B 2 A n (pn l)) {k : Nat} (hk : k < n) :
    ∃ ad, A = some ad ∧ ad.block < B ∧ w.cell? (ad.add (k * 2)) = some (.string ⟨(l.getD k ([], 0)).1.toArray⟩) ∧ w.cell? ⟨(ad.add (k * 2)).block, (ad.add (k * 2)).off + 1, none⟩ = some (.int .i64 (l.getD k ([], 0)).2) := by
  obtain ⟨ad, hA, hb, hc⟩ := h.2 (by omega)
  have hl : l.length = n := by have := h.1; rw [pn_length] at this; omega
  obtain ⟨g1, g2⟩ := pn_get (l := l) (k := k) (by omega)
  have e := hc _ _ g2
  rw [← add_of_add] at e
  exact ⟨ad, hA, hb, hc _ _ g1, by rw [← e]; unfold Addr.add; simp⟩
/-- The cells of an example. -/
theorem Kn.cell {w wx : World} (h : Kn w wx) {p : Addr} {u : Value} (hc : w.cell? p = some u) (hp : p.block < w.heap.size) : wx.cell? p = some u := (Below.cell h hp).trans hc
def Ex2 (w w0 : World) (b : Nat) (x y : Value) (wy : World) : Prop := Kn w wy ∧ Kn w0 wy ∧ b < wy.heap.size ∧ wy.cell? ⟨b, 0, none⟩ = some x ∧ wy.cell? ⟨b, 1, none⟩ = some y
set_option maxHeartbeats 8000000 in
set_option maxRecDepth 100000 in
theorem shown_any (w : World) (hg : ErrTab w) : Calls Tryd.prog 18 #[] w (TruePost w w) := by
  have HG := Lib.hid hg
  clear hg
  go_enter Tryd.func18, Tryd.ntmps18
  go_upto_region 1 with fail
  go_cut [35, 36, 37] from 9 to 37 (fun s n i wx => s = .slice (some ⟨w.heap.size, 0, none⟩) 26 26 ∧ n = .int .i64 26 ∧ i = .int .i64 0 ∧ Hid (Reads wx wx.heap.size 2 (some ⟨w.heap.size, 0, none⟩) 26 (px shownA)) ∧ Hid (Kn w wx))
  case first =>
    go_wp2_with fail
    go_meet
    exact ⟨rfl, rfl, rfl, Lib.hid (Reads.of_block (heap_alloc_new w _) rfl), Lib.hid ((Kn.refl w).alloc _)⟩
  case rest =>
    obtain ⟨rfl, rfl, rfl, HR, HK0⟩ := hcut
    go_wp2_with fail
    go_loopw [37] (fun i wx => ∃ k : Nat, k ≤ 26 ∧ i = .int .i64 k ∧ Hid (Reads wx wx.heap.size 2 (some ⟨w.heap.size, 0, none⟩) 26 (px shownA)) ∧ Hid (Kn w wx)) (fun i _ => 26 - (intOf i).toNat)
    case atStart => exact ⟨0, by omega, rfl, HR, HK0⟩
    case round =>
      clear HR HK0
      obtain ⟨k, hk, rfl, HR, HK⟩ := hrel
      by_cases hlt : k < 26
      · obtain ⟨ad, hA, hb, c1, c2⟩ := at_pair HR.out hlt
        obtain rfl : (⟨w.heap.size, 0, none⟩ : Addr) = ad := by injection hA
        have HO := Lib.hid (shown_a k hlt)
        have HL1 := Lib.hid (shown_len k hlt)
        generalize (shownA.getD k ([], [])).1 = p at c1 HO HL1
        generalize (shownA.getD k ([], [])).2 = q at c2 HO
        have hae : (⟨w.heap.size, 0, none⟩ : Addr).add (k * 2) = ⟨w.heap.size, k * 2, none⟩ := by unfold Addr.add; split <;> simp_all
        rw [hae] at c1 c2
        clear hA hb hae
        go_upto_region 4 with fail
        have HX : Hid (∀ wx wy : World, Kn wx wy → Ex2 w wr wr.heap.size (.string ⟨p.toArray⟩) (.string ⟨q.toArray⟩) wx → Ex2 w wr wr.heap.size (.string ⟨p.toArray⟩) (.string ⟨q.toArray⟩) wy) := Lib.hid (fun wx wy hb h => ⟨h.1.then hb, h.2.1.then hb, Nat.lt_of_lt_of_le h.2.2.1 hb.size, hb.cell h.2.2.2.1 h.2.2.1, hb.cell h.2.2.2.2 h.2.2.1⟩)
        have hx0 : Ex2 w wr wr.heap.size (.string ⟨p.toArray⟩) (.string ⟨q.toArray⟩) (wr.alloc (.cells #[.string ⟨p.toArray⟩, .string ⟨q.toArray⟩] 64)).drew := by
          refine ⟨(HK.out.alloc _).drew, ((Kn.refl wr).alloc _).drew, by simp, ?_, ?_⟩
          · exact new_cells wr _ _ 0 _ rfl
          · exact new_cells wr _ _ 1 _ rfl
        go_region_held3 (fun wy => Ex2 w wr wr.heap.size (.string ⟨p.toArray⟩) (.string ⟨q.toArray⟩) wy ∧ wy.cell? ⟨wr.heap.size, 0, none⟩ = some (.string ⟨p.toArray⟩)) ((first | assumption | (refine ⟨by assumption, ?_⟩; exact (by assumption : Ex2 _ _ _ _ _ _).2.2.2.1))) ((first | (go_at_call 32; refine (vars_k (by assumption : Ex2 _ _ _ _ _ _).1).mono ?_; rintro e wv ⟨bv, rfl, hvr, hkn, hkx⟩; have hex := HX.out _ _ hkx (by assumption)) | (go_at_call 10; refine (word_k0 HL1.out HO.out (by assumption : Ex2 _ _ _ _ _ _).1 (by assumption)).mono ?_; rintro e wv ⟨rfl, hkn, hkx⟩; have hex := HX.out _ _ hkx (by assumption))))
        go_wp2_with fail
        have hn1 := fun wx => neq_texts q q wx
        rw [decide_eq_false (by simp)] at hn1
        have hx1 : Ex2 w wr wr.heap.size (.string ⟨p.toArray⟩) (.string ⟨q.toArray⟩) wv.drew := by
          have h := (by assumption : Ex2 w wr wr.heap.size (.string ⟨p.toArray⟩) (.string ⟨q.toArray⟩) wv)
          exact ⟨h.1.drew, h.2.1.drew, h.2.2.1, h.2.2.2.1, h.2.2.2.2⟩
        go_region_held3 (fun wy => Ex2 w wr wr.heap.size (.string ⟨p.toArray⟩) (.string ⟨q.toArray⟩) wy ∧ wy.cell? ⟨wr.heap.size, 0, none⟩ = some (.string ⟨p.toArray⟩) ∧ wy.cell? ⟨wr.heap.size, 1, none⟩ = some (.string ⟨q.toArray⟩)) ((first | assumption | (refine ⟨by assumption, ?_, ?_⟩; exact (by assumption : Ex2 _ _ _ _ _ _).2.2.2.1; exact (by assumption : Ex2 _ _ _ _ _ _).2.2.2.2))) ((first | (go_at_call 32; refine (vars_k (by assumption : Ex2 _ _ _ _ _ _).1).mono ?_; rintro e wv ⟨bv, rfl, hvr, hkn, hkx⟩; have hex := HX.out _ _ hkx (by assumption)) | (go_at_call 3; refine (words_k _ _ (by first | decide | omega) (by first | decide | omega) HG.out (by assumption : Ex2 _ _ _ _ _ _).1 (by assumption)).mono ?_; rintro e wv ⟨rfl, hkn, hkx⟩; have hex := HX.out _ _ hkx (by assumption)) | (go_at_call 4; refine (docs_k _ _ (by first | decide | omega) (by first | decide | omega) HG.out (by assumption : Ex2 _ _ _ _ _ _).1 (by assumption)).mono ?_; rintro e wv ⟨rfl, hkn, hkx⟩; have hex := HX.out _ _ hkx (by assumption)) | (go_at_call 33; refine (names_k _ _ (by first | decide | omega) (by first | decide | omega) (by assumption : Ex2 _ _ _ _ _ _).1).mono ?_; rintro e wv ⟨rfl, hkn, hkx⟩; have hex := HX.out _ _ hkx (by assumption))))
        go_wp2_with fail
        go_roundw
        case rel => exact ⟨k + 1, by omega, by go_num, Lib.hid (HR.out.step (Nat.le_refl _) (by assumption : Ex2 _ _ _ _ _ _).2.1), Lib.hid (by assumption : Ex2 _ _ _ _ _ _).1⟩
        case measure => simp [intOf]; omega
      · go_upto_region 8 with fail
        go_cut [91, 92, 93] from 77 to 93 (fun s n i wx => s = .slice (some ⟨wr.heap.size, 0, none⟩) 14 14 ∧ n = .int .i64 14 ∧ i = .int .i64 0 ∧ Hid (Reads wx wx.heap.size 2 (some ⟨wr.heap.size, 0, none⟩) 14 (pn shownB)) ∧ Hid (Kn w wx))
        case first =>
          go_wp2_with fail
          go_meet
          exact ⟨rfl, rfl, rfl, Lib.hid (Reads.of_block (heap_alloc_new wr _) rfl), Lib.hid (HK.out.alloc _)⟩
        case rest =>
          obtain ⟨rfl, rfl, rfl, HR, HK0⟩ := hcut
          obtain ⟨H0, hH0⟩ : ∃ H0, H0 = wr.heap.size := ⟨_, rfl⟩
          rw [← hH0] at HR ⊢
          clear hH0
          go_wp2_with fail
          go_loopw [93] (fun i wx => ∃ k : Nat, k ≤ 14 ∧ i = .int .i64 k ∧ Hid (Reads wx wx.heap.size 2 (some ⟨H0, 0, none⟩) 14 (pn shownB)) ∧ Hid (Kn w wx)) (fun i _ => 14 - (intOf i).toNat)
          case atStart => exact ⟨0, by omega, rfl, HR, HK0⟩
          case round =>
            clear HR HK0
            obtain ⟨k, hk, rfl, HR, HK⟩ := hrel
            by_cases hlt : k < 14
            · obtain ⟨ad, hA, hb, c1, c2⟩ := at_pn HR.out hlt
              obtain rfl : (⟨H0, 0, none⟩ : Addr) = ad := by injection hA
              have HO := Lib.hid (shown_b k hlt)
              have HL1 := Lib.hid (shown_lenb k hlt).1
              have HL2 := Lib.hid (shown_lenb k hlt).2
              generalize (shownB.getD k ([], 0)).1 = p at c1 HO HL1
              generalize (shownB.getD k ([], 0)).2 = no at c2 HO HL2
              have hae : (⟨H0, 0, none⟩ : Addr).add (k * 2) = ⟨H0, k * 2, none⟩ := by unfold Addr.add; split <;> simp_all
              rw [hae] at c1 c2
              clear hA hb hae
              go_upto_region 11 with fail
              have HX : Hid (∀ wx wy : World, Kn wx wy → Ex2 w wr wr.heap.size (.string ⟨p.toArray⟩) (.int .i64 no) wx → Ex2 w wr wr.heap.size (.string ⟨p.toArray⟩) (.int .i64 no) wy) := Lib.hid (fun wx wy hb h => ⟨h.1.then hb, h.2.1.then hb, Nat.lt_of_lt_of_le h.2.2.1 hb.size, hb.cell h.2.2.2.1 h.2.2.1, hb.cell h.2.2.2.2 h.2.2.1⟩)
              have hx0 : Ex2 w wr wr.heap.size (.string ⟨p.toArray⟩) (.int .i64 no) (wr.alloc (.cells #[.string ⟨p.toArray⟩, .int .i64 no] 68)).drew := by
                refine ⟨(HK.out.alloc _).drew, ((Kn.refl wr).alloc _).drew, by simp, ?_, ?_⟩
                · exact new_cells wr _ _ 0 _ rfl
                · exact new_cells wr _ _ 1 _ rfl
              go_region_held3 (fun wy => Ex2 w wr wr.heap.size (.string ⟨p.toArray⟩) (.int .i64 no) wy ∧ wy.cell? ⟨wr.heap.size, 0, none⟩ = some (.string ⟨p.toArray⟩)) ((first | assumption | (refine ⟨by assumption, ?_⟩; exact (by assumption : Ex2 _ _ _ _ _ _).2.2.2.1))) ((first | (go_at_call 32; refine (vars_k (by assumption : Ex2 _ _ _ _ _ _).1).mono ?_; rintro e wv ⟨bv, rfl, hvr, hkn, hkx⟩; have hex := HX.out _ _ hkx (by assumption)) | (go_at_call 10; refine (word_kb HL1.out HO.out (by assumption : Ex2 _ _ _ _ _ _).1 (by assumption)).mono ?_; rintro e wv ⟨rfl, hkn, hkx⟩; have hex := HX.out _ _ hkx (by assumption))))
              go_wp2_with fail
              have hx1 : Ex2 w wr wr.heap.size (.string ⟨p.toArray⟩) (.int .i64 no) wv.drew := by
                have h := (by assumption : Ex2 w wr wr.heap.size (.string ⟨p.toArray⟩) (.int .i64 no) wv)
                exact ⟨h.1.drew, h.2.1.drew, h.2.2.1, h.2.2.2.1, h.2.2.2.2⟩
              go_region_held3 (fun wy => Ex2 w wr wr.heap.size (.string ⟨p.toArray⟩) (.int .i64 no) wy ∧ wy.cell? ⟨wr.heap.size, 0, none⟩ = some (.string ⟨p.toArray⟩) ∧ wy.cell? ⟨wr.heap.size, 1, none⟩ = some (.int .i64 no)) ((first | assumption | (refine ⟨by assumption, ?_, ?_⟩; exact (by assumption : Ex2 _ _ _ _ _ _).2.2.2.1; exact (by assumption : Ex2 _ _ _ _ _ _).2.2.2.2))) ((first | (go_at_call 32; refine (vars_k (by assumption : Ex2 _ _ _ _ _ _).1).mono ?_; rintro e wv ⟨bv, rfl, hvr, hkn, hkx⟩; have hex := HX.out _ _ hkx (by assumption)) | (go_at_call 3; refine (words_k _ _ (by first | decide | omega) (by first | decide | omega) HG.out (by assumption : Ex2 _ _ _ _ _ _).1 (by assumption)).mono ?_; rintro e wv ⟨rfl, hkn, hkx⟩; have hex := HX.out _ _ hkx (by assumption)) | (go_at_call 4; refine (docs_k _ _ (by first | decide | omega) (by first | decide | omega) HG.out (by assumption : Ex2 _ _ _ _ _ _).1 (by assumption)).mono ?_; rintro e wv ⟨rfl, hkn, hkx⟩; have hex := HX.out _ _ hkx (by assumption)) | (go_at_call 33; refine (names_k _ _ (by first | decide | omega) (by first | decide | omega) (by assumption : Ex2 _ _ _ _ _ _).1).mono ?_; rintro e wv ⟨rfl, hkn, hkx⟩; have hex := HX.out _ _ hkx (by assumption)) | (go_at_call 11; refine (plain_k no HL2.out HG.out (by assumption : Ex2 _ _ _ _ _ _).1).mono ?_; rintro e wv ⟨rfl, hkn, hkx⟩; have hex := HX.out _ _ hkx (by assumption))))
              go_wp2_with fail
              go_roundw
              case rel => exact ⟨k + 1, by omega, by go_num, Lib.hid (HR.out.step (Nat.le_refl _) (by assumption : Ex2 _ _ _ _ _ _).2.1), Lib.hid (by assumption : Ex2 _ _ _ _ _ _).1⟩
              case measure => simp [intOf]; omega
            · go_wp2_with fail
              refine (works_k HK.out).mono ?_
              rintro e wv ⟨rfl, hkn, hkx⟩
              go_wp2_with fail
              go_ret
              exact ⟨rfl, hkn, hkn⟩
end Exp
end Go.Proofs.YtnmnhnhlggbijaaDoor
namespace Go.Proofs.YtnmnhnhlggbijaaDoor
open Go.RowKit Err
namespace Exp
open T

def tens : Nat → Nat
  | 0 => 1
  | n + 1 => 10 * tens n
theorem tens_le (n : Nat) (h : n < 4) : tens n ≤ 1000 := (show ∀ n : Fin 4, tens n.val ≤ 1000 by decide) ⟨n, h⟩
theorem SRow.more {m n : Nat} {xs : List Value} (h : SRow m xs) (hm : m ≤ n) : SRow n xs := fun x hx => by
  obtain ⟨b, h1, h2⟩ := h x hx
  exact ⟨b, h1, by omega⟩
theorem SRow.snoc {n : Nat} {xs : List Value} (h : SRow n xs) (b : ByteArray) (hb : b.size ≤ n) : SRow n (xs ++ [.string b]) := fun x hx => by
  rcases List.mem_append.1 hx with h1 | h1
  · exact h x h1
  · obtain rfl := List.mem_singleton.1 h1; exact ⟨b, rfl, hb⟩
section
variable {o : Oper} {a : Act} {ops : Array Oper} {w : World} {K : Act → World → Prop} {Q : Exit → Act → World → Prop}
/-- One text more behind a row of the call's own. -/
theorem step_appendS {E : Prop} {base n : Nat} {v : Value} {xs : List Value} (hgd : o.guard = none) (s x : Operand)
    (ho : o.op = .call { callee := .builtin .append, args := #[s, x], argTypes := #[36, 36] }) (hs : a.eval s = v) (g : Nat) (u : ByteArray) (hx : a.eval x = .slice (some ⟨g, 0, none⟩) 1 1)
    (hc : w.cell? ⟨g, 0, none⟩ = some (.string u)) (hown : w.ownsRow base 9 1 v n xs) (hn : n + 1 ≤ 1000000) (hbase : base ≤ w.heap.size)
    (h : ∀ v' w', w'.ownsRow base 9 1 v' (n + 1) (xs ++ [.string u]) → w.grownBy w' v.ownBlock → K (a.put o.dst v') w') : if Region.wanted o (yielded ops a.tmps) = true then Oper.wp Tryd.prog o a w K Q else E := by
  have hw : Region.wanted o (yielded ops a.tmps) = true := by simp [Region.wanted, hgd]
  rw [if_pos hw]
  obtain ⟨i0, hi0, hz0, hs0, hb0⟩ := info_parts infoStr
  obtain ⟨v', w', hr, h2, h3, _⟩ := run_append_own_at (P := Tryd.prog) w base 36 o.type 9 i0 (.string .empty) 1 16 Tryd.underlying36 hi0 hz0 hs0 hb0 rfl (by decide) v n xs hown ⟨g, 0, none⟩ 1 1 [.string u] rfl (by
    intro j y hy
    match j, hy with
    | 0, hy =>
      simp only [List.getElem?_cons_zero, Option.some.injEq] at hy
      rw [← hy]; exact hc) (by intro y hy; simp at hy; subst hy; rfl) (by unfold maxLen; omega) (by omega) hbase
  unfold Oper.wp execOp
  simp only [ho, resolve, invoke, builtin, Sem.run_bind, Sem.run_pure, Result.andThen_ok, List.map_toArray, List.map_cons, List.map_nil, hs, hx, hr]
  exact h v' w' h2 h3
end
/-- What grew out of this world's own blocks. -/
theorem Kn.grown {w wx wy : World} {row : Option Nat} (h : Kn w wx) (hg : wx.grownBy wy row) (hr : ∀ g, row = some g → w.heap.size ≤ g) : Kn w wy := Below.grown h hg h.size hr
def lettB : ByteArray := ⟨#[36, 65, 123, 125, 58, 45, 43, 39, 34, 92]⟩
set_option maxHeartbeats 8000000 in
set_option maxRecDepth 100000 in
theorem short_any (w : World) (hg : ErrTab w) : Calls Tryd.prog 19 #[] w (TruePost w w) := by
  have HG := Lib.hid hg
  clear hg
  go_enter Tryd.func19, Tryd.ntmps19
  go_wp2_with fail
  go_loopw [1, 2] (fun l n wx => ∃ (k m c : Nat) (A : Option Addr) (xs : List Value), k ≤ 4 ∧ l = .slice A m c ∧ n = .int .i64 k ∧ Hid (m ≤ tens k) ∧ Hid (SRow k xs) ∧ Hid (Reads wx wx.heap.size 1 A m xs) ∧ Hid (Kn w wx)) (fun _ n _ => 4 - (intOf n).toNat)
  case atStart => exact ⟨0, 1, 1, _, [.string ⟨#[]⟩], by omega, rfl, rfl, Lib.hid (by decide), Lib.hid (fun x hx => by obtain rfl := List.mem_singleton.1 hx; exact ⟨_, rfl, by decide⟩), Lib.hid (Reads.of_block (heap_alloc_new w _) rfl), Lib.hid ((Kn.refl w).alloc _)⟩
  case round =>
    obtain ⟨k, m, c, A, xs, hk, rfl, rfl, HM, HX, HR, HK⟩ := hrel
    obtain ⟨w1, hw1⟩ : ∃ w1 : World, w1 = wr := ⟨_, rfl⟩
    subst hw1
    by_cases hlt : k < 4
    · have HT := Lib.hid (tens_le k hlt)
      have hm : m ≤ 1000 := by have := HM.out; have := HT.out; omega
      have hd4 : decide ((k : Int) < 4) = true := by rw [decide_eq_true_iff]; omega
      go_wp2_with fail
      go_loopw [3, 4] (fun v i wx => ∃ (a : Nat) (c2 : Nat) (A2 : Option Addr) (ys : List Value) , a ≤ m ∧ i = .int .i64 a ∧ v = .slice A2 ys.length c2 ∧ Hid (ys.length = a * 10) ∧ Hid (SRow (k + 1) ys) ∧ Hid (wx.ownsRow w1.heap.size 9 1 (.slice A2 ys.length c2) ys.length ys) ∧ Hid (Kn w1 wx)) (fun _ i _ => m - (intOf i).toNat)
      case atStart => exact ⟨0, 0, none, [], by omega, rfl, rfl, Lib.hid rfl, Lib.hid (fun x hx => by cases hx), Lib.hid (World.ownsRow_nil _ _ _ _), Lib.hid (Kn.refl _)⟩
      case round =>
        obtain ⟨a, c2, A2, ys, ha, rfl, rfl, HL, HY, HO, HK1⟩ := hrel
        obtain ⟨w2, hw2⟩ : ∃ w2 : World, w2 = wr := ⟨_, rfl⟩
        subst hw2
        by_cases hlt2 : a < m
        · obtain ⟨ad, p, rfl, hb, hp, c1⟩ := HX.out.at_ HR.out hlt2
          have hba : (ad.add a).block < w1.heap.size := by rw [block_of_add]; exact hb
          have HC1 := Lib.hid c1
          clear c1
          go_wp2_with fail
          go_loopw [3, 5] (fun v i wx => ∃ (q : Nat) (c2 : Nat) (A2 : Option Addr) (ys : List Value) , q ≤ 10 ∧ i = .int .i64 q ∧ v = .slice A2 ys.length c2 ∧ Hid (ys.length = a * 10 + q) ∧ Hid (SRow (k + 1) ys) ∧ Hid (wx.ownsRow w1.heap.size 9 1 (.slice A2 ys.length c2) ys.length ys) ∧ Hid (Kn w1 wx)) (fun _ i _ => 10 - (intOf i).toNat)
          case atStart => exact ⟨0, c2, A2, ys, by omega, rfl, rfl, HL, HY, HO, HK1⟩
          case round =>
            clear HL HY HO HK1
            obtain ⟨q, c3, A3, zs, hq, rfl, rfl, HL, HY, HO, HK3⟩ := hrel
            obtain ⟨w3, hw3⟩ : ∃ w3 : World, w3 = wr := ⟨_, rfl⟩
            subst hw3
            by_cases hqt : q < 10
            · have hd10 : decide ((q : Int) < 10) = true := by rw [decide_eq_true_iff]; omega
              have hc1 : w3.cell? (ad.add a) = some (.string p) := (Below.cell HK3.out hba).trans HC1.out
              have hs1 : lettB.size = 10 := rfl
              obtain ⟨e, he⟩ : ∃ e, e = lettB.extract q (q + 1) := ⟨_, rfl⟩
              have hsl : ∀ wx, (Instr.slice 9 (.string ⟨#[36, 65, 123, 125, 58, 45, 43, 39, 34, 92]⟩) (some (.int .i64 q)) (some (.int .i64 ((q : Int) + 1))) none).run Tryd.prog wx = .ok (.string e) wx := fun wx => by
                have h := run_slice_string wx 9 lettB .i64 .i64 (q : Int) ((q : Int) + 1) Tryd.underlying9 (by omega) (by omega) (by rw [hs1]; omega)
                rw [show ((q : Int) + 1).toNat = q + 1 by omega, Int.toNat_natCast, ← he] at h
                exact h
              have hes : e.size ≤ 1 := by rw [he, ByteArray.size_extract]; omega
              clear he hs1
              have hwq : IntKind.i64.wrap ((q : Int) + 1) = (q : Int) + 1 := IntWalk.i64_in _ (by omega)
              have hl1 : (9223372036854775807 < p.size + e.size) = False := eq_false (by omega)
              have hzl : zs.length ≤ 20000 := by have := HL.out; omega
              have hpe : (p ++ e).size ≤ k + 1 := by rw [ByteArray.size_append]; omega
              have hia : (0 : Int) ≤ (a : Int) := by omega
              have him : (a : Int) < (m : Int) := by omega
              go_upto_region 12 with fail
              go_region_held3 (fun wy => wy.cell? (ad.add a) = some (.string p)) ((first | assumption | exact hc1 | exact (World.cell?_alloc_lt w3 _ _ (by have := HK3.out.size; omega)).trans hc1 | exact (Below.cell hk5 hba).trans HC1.out)) ((refine step_appendS (base := w1.heap.size) (n := zs.length) (xs := zs) (v := .slice A3 zs.length c3) rfl _ _ rfl rfl _ (p ++ e) rfl (new_cells w3 _ _ 0 _ rfl) (HO.out.alloc _) (by omega) (by have := HK3.out.size; simp; omega) ?_; intro v1 w5 hown1 hgrow1; have hk5 : Kn w1 w5 := Kn.grown ((HK3.out.alloc _).drew) hgrow1 (fun g hg => (World.ownsRow.lt HO.out g hg).1)))
              have HO5 := Lib.hid hown1
              have HK5 := Lib.hid hk5
              obtain ⟨A5, c5, rfl, _⟩ := own_readsN hown1
              clear hown1 hgrow1 hk5
              go_wp2_with fail
              go_roundw
              case rel =>
                have e1 : (zs ++ [Value.string (p ++ e)]).length = zs.length + 1 := by simp
                exact ⟨q + 1, c5, A5, zs ++ [.string (p ++ e)], by omega, by go_num, by rw [e1], Lib.hid (by have := HL.out; omega), Lib.hid (HY.out.snoc _ hpe), by rw [e1]; exact HO5, HK5⟩
              case measure => simp [intOf]; omega
            · go_wp2_with fail
              go_roundw
              case rel => exact ⟨a + 1, c3, A3, zs, by omega, by go_num, rfl, Lib.hid (by have := HL.out; omega), HY, HO, HK3⟩
              case measure => simp [intOf]; omega
        · have HL2 : Hid (ys.length = m * 10) := Lib.hid (by have h0 := HL.out; have h1 : a = m := (by omega); rw [h1] at h0; exact h0)
          have HR2 := Lib.hid (Reads.of_own HO.out)
          have HKW2 := Lib.hid (HK.out.then HK1.out)
          have HG2 := Lib.hid (HKW2.out.tab HG.out)
          have hml : ys.length ≤ 10000 := by have := HL2.out; omega
          clear HL HO HR HX
          go_wp2_with fail
          go_loopw [6] (fun i wx => ∃ j : Nat, j ≤ ys.length ∧ i = .int .i64 j ∧ Hid (Kn w2 wx)) (fun i _ => ys.length - (intOf i).toNat)
          case atStart => exact ⟨0, by omega, rfl, Lib.hid (Kn.refl _)⟩
          case round =>
            obtain ⟨j, hj, rfl, HK4⟩ := hrel
            by_cases hjt : j < ys.length
            · obtain ⟨ad, b, rfl, hb, hp, c1⟩ := HY.out.at_ (HR2.out.below HK4.out) hjt
              have hbs : b.size ≤ 10 := by omega
              have hk0 := HK4.out
              have hmod : IntKind.i64.wrap ((j : Int).tmod 3) = (j : Int) % 3 := by rw [IntWalk.rem_in _ _ (by omega)]; exact IntWalk.i64_in _ (by omega)
              clear hb
              rcases (by omega : (j : Int) % 3 = 0 ∨ (j : Int) % 3 = 1 ∨ (j : Int) % 3 = 2) with h3 | h3 | h3
              all_goals
                first | have b0 : (((j : Int) % 3) == 0) = true := (by rw [h3]; rfl) | have b0 : (((j : Int) % 3) == 0) = false := (by rw [h3]; rfl)
                first | have b1 : (((j : Int) % 3) == 1) = true := (by rw [h3]; rfl) | have b1 : (((j : Int) % 3) == 1) = false := (by rw [h3]; rfl)
                first | have b2 : (((j : Int) % 3) == 2) = true := (by rw [h3]; rfl) | have b2 : (((j : Int) % 3) == 2) = false := (by rw [h3]; rfl)
                clear h3
                go_wp2_with (first | (go_at_call 32; refine (vars_k (w := w2) (by assumption)).mono ?_; rintro e wv ⟨bv, rfl, hvr, hkn, hkx⟩) | (go_at_call 3; refine (words_k (w := w2) _ _ (by first | decide | omega) (by first | decide | omega) HG2.out (by assumption) (by assumption)).mono ?_; rintro e wv ⟨rfl, hkn, hkx⟩) | (go_at_call 4; refine (docs_k (w := w2) _ _ (by first | decide | omega) (by first | decide | omega) HG2.out (by assumption) (by assumption)).mono ?_; rintro e wv ⟨rfl, hkn, hkx⟩) | (go_at_call 33; refine (names_k (w := w2) _ _ (by first | decide | omega) (by first | decide | omega) (by assumption)).mono ?_; rintro e wv ⟨rfl, hkn, hkx⟩))
                go_roundw
                case rel => exact ⟨j + 1, by omega, by go_num, Lib.hid (by assumption)⟩
                case measure => simp [intOf]; omega
            · go_wp2_with fail
              go_roundw
              case rel => exact ⟨k + 1, ys.length, c2, A2, ys, by omega, rfl, by go_num, Lib.hid (by have := HL2.out; have := HM.out; show _ ≤ 10 * tens k; omega), HY, Lib.hid ((HR2.out.below HK4.out).more HK4.out.size), Lib.hid (HKW2.out.then HK4.out)⟩
              case measure => simp [intOf]; omega
    · go_wp2_with fail
      go_ret
      exact ⟨rfl, HK.out, HK.out⟩
end Exp
end Go.Proofs.YtnmnhnhlggbijaaDoor
namespace Go.Proofs.YtnmnhnhlggbijaaDoor
open Go.RowKit Err
namespace Exp
open T

def byW : List Value := [.string ⟨#[97, 36, 65, 46, 36, 123, 66, 58, 45, 121, 125, 122]⟩, .string ⟨#[34, 36, 65, 92, 36, 34, 39, 98, 39]⟩, .string ⟨#[36, 123, 65, 58, 43, 34, 113, 34, 125, 36, 68]⟩]
theorem byW_row : SRow 20 byW := by
  intro x hx
  simp only [byW, List.mem_cons, List.not_mem_nil, or_false] at hx
  rcases hx with rfl | rfl | rfl <;> exact ⟨_, rfl, by decide⟩
set_option maxHeartbeats 8000000 in
set_option maxRecDepth 100000 in
theorem bytesK_any (w : World) (hg : ErrTab w) : Calls Tryd.prog 20 #[] w (TruePost w w) := by
  have HG := Lib.hid hg
  clear hg
  go_enter Tryd.func20, Tryd.ntmps20
  go_upto_region 1 with fail
  go_cut [7, 8, 9] from 7 to 9 (fun s n i wx => s = .slice (some ⟨w.heap.size, 0, none⟩) 3 3 ∧ n = .int .i64 3 ∧ i = .int .i64 0 ∧ Hid (Reads wx wx.heap.size 1 (some ⟨w.heap.size, 0, none⟩) 3 byW) ∧ Hid (Kn w wx))
  case first =>
    go_wp2_with fail
    go_meet
    exact ⟨rfl, rfl, rfl, Lib.hid (Reads.of_block (heap_alloc_new w _) rfl), Lib.hid ((Kn.refl w).alloc _)⟩
  case rest =>
    obtain ⟨rfl, rfl, rfl, HR, HKC⟩ := hcut
    obtain ⟨wb, hwb⟩ : ∃ wb : World, wb = wc := ⟨_, rfl⟩
    subst hwb
    have HG := Lib.hid (HKC.out.tab HG.out)
    obtain ⟨H0, hH0⟩ : ∃ H0, H0 = w.heap.size := ⟨_, rfl⟩
    rw [← hH0] at HR ⊢
    clear hH0
    go_wp2_with fail
    go_loopw [9] (fun i wx => ∃ k : Nat, k ≤ 3 ∧ i = .int .i64 k ∧ Hid (Kn wb wx)) (fun i _ => 3 - (intOf i).toNat)
    case atStart => exact ⟨0, by omega, rfl, Lib.hid (Kn.refl _)⟩
    case round =>
      obtain ⟨k, hk, rfl, HK⟩ := hrel
      obtain ⟨w1, hw1⟩ : ∃ w1 : World, w1 = wr := ⟨_, rfl⟩
      subst hw1
      by_cases hlt : k < 3
      · obtain ⟨ad, s, hA, hb, hs, c1⟩ := byW_row.at_ (HR.out.below HK.out) hlt
        obtain rfl : (⟨H0, 0, none⟩ : Addr) = ad := by injection hA
        have hae : (⟨H0, 0, none⟩ : Addr).add k = ⟨H0, k, none⟩ := by unfold Addr.add; split <;> simp_all
        rw [hae] at c1
        clear hA hb hae
        have hd3 : decide ((k : Int) < 3) = true := by rw [decide_eq_true_iff]; omega
        go_wp2_with fail
        clear c1
        go_loopw [3] (fun i wx => ∃ a : Nat, a ≤ s.size + 1 ∧ i = .int .i64 a ∧ Hid (Kn wb wx)) (fun i _ => s.size + 1 - (intOf i).toNat)
        case atStart => exact ⟨0, by omega, rfl, HK⟩
        case round =>
          clear HK
          obtain ⟨a, ha, rfl, HK⟩ := hrel
          obtain ⟨w2, hw2⟩ : ∃ w2 : World, w2 = wr := ⟨_, rfl⟩
          subst hw2
          by_cases hle : a ≤ s.size
          · go_wp2_with fail
            go_loopw [4] (fun i wx => ∃ c : Nat, c ≤ 256 ∧ i = .int .i64 c ∧ Hid (Kn wb wx)) (fun i _ => 256 - (intOf i).toNat)
            case atStart => exact ⟨0, by omega, rfl, HK⟩
            case round =>
              clear HK
              obtain ⟨c, hc, rfl, HK⟩ := hrel
              obtain ⟨w3, hw3⟩ : ∃ w3 : World, w3 = wr := ⟨_, rfl⟩
              subst hw3
              by_cases hcc : c < 256
              · have hw0 : IntKind.u8.wrap (c : Int) = (c : Int) := IntWalk.u8_in _ (by omega)
                have hi1 : (0 : Int) ≤ (a : Int) := by omega
                have hi2 : (a : Int) ≤ (s.size : Int) := by omega
                have hdc : decide ((c : Int) < 256) = true := by rw [decide_eq_true_iff]; omega
                go_upto_region 10 with fail
                go_cut [5] (fun t wx => ∃ b : ByteArray, t = .string b ∧ Hid (Kn wb wx))
                case first =>
                  have hcv := run_convert_reads (P := Tryd.prog) Tryd.underlying54 Tryd.underlying5 Tryd.underlying9 1 (l := [UInt8.ofNat c]) (by
                    have e : Lib.byteCells [UInt8.ofNat c] = [.int .u8 c] := by simp [Lib.byteCells]; omega
                    rw [e]
                    exact (Reads.of_block (n := 1) (size := 1) (heap_alloc_new w3 (.cells #[.int .u8 c] 5)) rfl).drew)
                  have hl1 : (9223372036854775807 < a + 1) = False := eq_false (by omega)
                  go_region_with (fail)
                  go_wp2_with fail
                  go_meet
                  exact ⟨_, rfl, Lib.hid ((HK.out.alloc _).drew)⟩
                case rest =>
                  clear HK
                  obtain ⟨b, rfl, HK⟩ := hcut
                  have hk0 := HK.out
                  have hmod : IntKind.i64.wrap ((c : Int).tmod 4) = (c : Int) % 4 := by rw [IntWalk.rem_in _ _ (by omega)]; exact IntWalk.i64_in _ (by omega)
                  by_cases hc4 : (c : Int) % 4 = 0
                  · have hb4 : (((c : Int) % 4) == 0) = true := by simpa using hc4
                    go_wp2_with (first | (go_at_call 32; refine (vars_k (w := wb) (by assumption)).mono ?_; rintro e wv ⟨bv, rfl, hvr, hkn, hkx⟩) | (go_at_call 3; refine (words_k (w := wb) _ _ (by first | decide | omega) (by first | decide | omega) HG.out (by assumption) (by assumption)).mono ?_; rintro e wv ⟨rfl, hkn, hkx⟩) | (go_at_call 4; refine (docs_k (w := wb) _ _ (by first | decide | omega) (by first | decide | omega) HG.out (by assumption) (by assumption)).mono ?_; rintro e wv ⟨rfl, hkn, hkx⟩) | (go_at_call 33; refine (names_k (w := wb) _ _ (by first | decide | omega) (by first | decide | omega) (by assumption)).mono ?_; rintro e wv ⟨rfl, hkn, hkx⟩))
                    go_roundw
                    case rel => exact ⟨c + 1, by omega, by go_num, Lib.hid (by assumption)⟩
                    case measure => simp [intOf]; omega
                  · have hb4 : (((c : Int) % 4) == 0) = false := by simpa using hc4
                    go_wp2_with (first | (go_at_call 32; refine (vars_k (w := wb) (by assumption)).mono ?_; rintro e wv ⟨bv, rfl, hvr, hkn, hkx⟩) | (go_at_call 3; refine (words_k (w := wb) _ _ (by first | decide | omega) (by first | decide | omega) HG.out (by assumption) (by assumption)).mono ?_; rintro e wv ⟨rfl, hkn, hkx⟩) | (go_at_call 4; refine (docs_k (w := wb) _ _ (by first | decide | omega) (by first | decide | omega) HG.out (by assumption) (by assumption)).mono ?_; rintro e wv ⟨rfl, hkn, hkx⟩) | (go_at_call 33; refine (names_k (w := wb) _ _ (by first | decide | omega) (by first | decide | omega) (by assumption)).mono ?_; rintro e wv ⟨rfl, hkn, hkx⟩))
                    go_roundw
                    case rel => exact ⟨c + 1, by omega, by go_num, Lib.hid (by assumption)⟩
                    case measure => simp [intOf]; omega
              · have hi1 : (0 : Int) ≤ (a : Int) := by omega
                have hi2 : (a : Int) ≤ (s.size : Int) := by omega
                have hk0 := HK.out.drew
                go_upto_region 13 with fail
                go_region_held3 (fun wy => Kn wb wy) ((first | assumption | (intros; assumption))) ((first | (go_at_call 32; refine (vars_k (w := wb) (by assumption)).mono ?_; rintro e wv ⟨bv, rfl, hvr, hkn, hkx⟩) | (go_at_call 3; refine (words_k (w := wb) _ _ (by first | decide | omega) (by first | decide | omega) HG.out (by assumption) (by assumption)).mono ?_; rintro e wv ⟨rfl, hkn, hkx⟩) | (go_at_call 4; refine (docs_k (w := wb) _ _ (by first | decide | omega) (by first | decide | omega) HG.out (by assumption) (by assumption)).mono ?_; rintro e wv ⟨rfl, hkn, hkx⟩) | (go_at_call 33; refine (names_k (w := wb) _ _ (by first | decide | omega) (by first | decide | omega) (by assumption)).mono ?_; rintro e wv ⟨rfl, hkn, hkx⟩)))
                go_wp2_with fail
                go_roundw
                case rel => exact ⟨a + 1, by omega, by go_num, Lib.hid (by assumption)⟩
                case measure => simp [intOf]; omega
          · go_wp2_with fail
            go_loopw [6] (fun i wx => ∃ c : Nat, c ≤ 256 ∧ i = .int .i64 c ∧ Hid (Kn wb wx)) (fun i _ => 256 - (intOf i).toNat)
            case atStart => exact ⟨0, by omega, rfl, HK⟩
            case round =>
              clear HK
              obtain ⟨c, hc, rfl, HK⟩ := hrel
              by_cases hcc : c < 256
              · have hw0 : IntKind.u8.wrap (c : Int) = (c : Int) := IntWalk.u8_in _ (by omega)
                have hk0 := HK.out
                go_wp2_with (first | (go_at_call 32; refine (vars_k (w := wb) (by assumption)).mono ?_; rintro e wv ⟨bv, rfl, hvr, hkn, hkx⟩) | (go_at_call 3; refine (words_k (w := wb) _ _ (by first | decide | omega) (by first | decide | omega) HG.out (by assumption) (by assumption)).mono ?_; rintro e wv ⟨rfl, hkn, hkx⟩) | (go_at_call 4; refine (docs_k (w := wb) _ _ (by first | decide | omega) (by first | decide | omega) HG.out (by assumption) (by assumption)).mono ?_; rintro e wv ⟨rfl, hkn, hkx⟩) | (go_at_call 33; refine (names_k (w := wb) _ _ (by first | decide | omega) (by first | decide | omega) (by assumption)).mono ?_; rintro e wv ⟨rfl, hkn, hkx⟩))
                go_roundw
                case rel => exact ⟨c + 1, by omega, by go_num, Lib.hid (by assumption)⟩
                case measure => simp [intOf]; omega
              · go_wp2_with fail
                go_roundw
                case rel => exact ⟨k + 1, by omega, by go_num, HK⟩
                case measure => simp [intOf]; omega
      · go_wp2_with fail
        go_ret
        exact ⟨rfl, HKC.out.then HK.out, HKC.out.then HK.out⟩
end Exp
end Go.Proofs.YtnmnhnhlggbijaaDoor
namespace Go.Proofs.YtnmnhnhlggbijaaDoor
open Go.RowKit Err
namespace Exp
open T

def szW : List Value := [.string ⟨#[36, 76]⟩, .string ⟨#[97, 36, 76]⟩, .string ⟨#[36, 123, 76, 125, 98, 99]⟩, .string ⟨#[36, 123, 76, 58, 45, 36, 77, 125, 97]⟩, .string ⟨#[36, 123, 77, 58, 43, 125, 36, 76]⟩, .string ⟨#[36, 123, 77, 58, 43, 36, 76, 125, 122]⟩, .string ⟨#[36, 123, 78, 58, 45, 36, 123, 76, 125, 121, 125]⟩, .string ⟨#[36, 77]⟩, .string ⟨#[36, 123, 77, 58, 45, 125]⟩, .string ⟨#[36, 76, 36, 77]⟩, .string ⟨#[36, 77, 36, 123]⟩, .string ⟨#[36, 77, 39]⟩, .string ⟨#[36, 123, 76, 58, 43, 36, 77, 125]⟩, .string ⟨#[39, 120, 39, 36, 76]⟩]
theorem ba_len (b : ByteArray) : b.data.toList.length = b.size := Array.length_toList
theorem szW_row : SRow 20 szW := by
  intro x hx
  simp only [szW, List.mem_cons, List.not_mem_nil, or_false] at hx
  rcases hx with rfl | rfl | rfl | rfl | rfl | rfl | rfl | rfl | rfl | rfl | rfl | rfl | rfl | rfl <;> exact ⟨_, rfl, by decide⟩
set_option maxHeartbeats 8000000 in
set_option maxRecDepth 100000 in
theorem sizes_any (w : World) (hg : ErrTab w) : Calls Tryd.prog 21 #[] w (TruePost w w) := by
  have HG := Lib.hid hg
  clear hg
  go_enter Tryd.func21, Tryd.ntmps21
  go_wp2_with fail
  go_loopw [1] (fun s wx => ∃ p : ByteArray, s = .string p ∧ 8 ≤ p.size ∧ p.size ≤ 131072 ∧ w = wx) (fun s _ => 65536 - (match s with | .string p => p.size | _ => 0))
  case atStart => exact ⟨_, rfl, by decide, by decide, rfl⟩
  case round =>
    obtain ⟨p, rfl, h8, hp, rfl⟩ := hrel
    by_cases hlt : p.size < 65536
    · have hi : decide ((p.size : Int) < 65536) = true := by rw [decide_eq_true_iff]; omega
      go_wp2_with fail
      go_roundw
      case rel => exact ⟨p ++ p, rfl, by rw [ByteArray.size_append]; omega, by rw [ByteArray.size_append]; omega, trivial⟩
      case measure => simp [ByteArray.size_append]; omega
    · have hi : decide ((p.size : Int) < 65536) = false := by rw [decide_eq_false_iff_not]; omega
      go_upto_region 4 with fail
      clear hi
      go_cut [13, 14, 15] from 7 to 15 (fun s n i wx => s = .slice (some ⟨w.heap.size, 0, none⟩) 3 3 ∧ n = .int .i64 3 ∧ i = .int .i64 0 ∧ Hid (Reads wx wx.heap.size 1 (some ⟨w.heap.size, 0, none⟩) 3 [.int .i64 65534, .int .i64 65535, .int .i64 65536]) ∧ Hid (Kn w wx))
      case first =>
        go_wp2_with fail
        go_meet
        exact ⟨rfl, rfl, rfl, Lib.hid (Reads.of_block (heap_alloc_new w _) rfl), Lib.hid ((Kn.refl w).alloc _)⟩
      case rest =>
        obtain ⟨rfl, rfl, rfl, HR, HK0⟩ := hcut
        go_wp2_with fail
        go_loopw [15] (fun i wx => ∃ k : Nat, k ≤ 3 ∧ i = .int .i64 k ∧ Hid (Reads wx wx.heap.size 1 (some ⟨w.heap.size, 0, none⟩) 3 [.int .i64 65534, .int .i64 65535, .int .i64 65536]) ∧ Hid (Kn w wx)) (fun i _ => 3 - (intOf i).toNat)
        case atStart => exact ⟨0, by omega, rfl, HR, HK0⟩
        case round =>
          clear HR HK0
          obtain ⟨k, hk, rfl, HR, HK⟩ := hrel
          obtain ⟨w1, hw1⟩ : ∃ w1 : World, w1 = wr := ⟨_, rfl⟩
          subst hw1
          by_cases hlt : k < 3
          · obtain ⟨ad, u, hA, hb, hu, c1⟩ := HR.out.at_ hlt
            obtain rfl : (⟨w.heap.size, 0, none⟩ : Addr) = ad := by injection hA
            have hae : (⟨w.heap.size, 0, none⟩ : Addr).add k = ⟨w.heap.size, k, none⟩ := by unfold Addr.add; split <;> simp_all
            rw [hae] at c1
            obtain ⟨m, rfl, hm⟩ : ∃ m : Nat, u = .int .i64 m ∧ m ≤ 65536 := by
              rcases k with _ | _ | _ | k
              · exact ⟨65534, by simpa using hu.symm, by decide⟩
              · exact ⟨65535, by simpa using hu.symm, by decide⟩
              · exact ⟨65536, by simpa using hu.symm, by decide⟩
              · omega
            clear hA hb hae hu
            have hm1 : (0 : Int) ≤ (m : Int) := by omega
            have hm2 : (m : Int) ≤ (p.size : Int) := by omega
            go_upto_region 7 with fail
            go_cut [4] (fun v wx => ∃ (g : Nat) (l : List (List UInt8 × List UInt8)), v = .slice (some ⟨g, 0, none⟩) 2 2 ∧ Hid (Reads wx wx.heap.size 2 (some ⟨g, 0, none⟩) 2 (px l)) ∧ Hid (PxLe 140737488355328 l) ∧ Hid (Kn w1 wx) ∧ Hid (Kn w wx))
            case first =>
              go_wp2_with fail
              go_meet
              refine ⟨w1.heap.size, [((⟨#[76]⟩ : ByteArray).data.toList, (p.extract 0 m).data.toList), ((⟨#[77]⟩ : ByteArray).data.toList, (p ++ ⟨#[120]⟩ : ByteArray).data.toList)], rfl, Lib.hid ?_, Lib.hid ?_, Lib.hid ((Kn.refl w1).alloc _), Lib.hid (HK.out.alloc _)⟩
              · rw [px_two]
                exact Reads.of_block (heap_alloc_new w1 _) rfl
              · intro x hx
                have e1 : (p.extract 0 m).data.toList.length ≤ 131072 := by
                  have : (p.extract 0 m).size ≤ p.size := by rw [ByteArray.size_extract]; omega
                  have h2 := ba_len (p.extract 0 m)
                  omega
                have e2 : (p ++ ⟨#[120]⟩ : ByteArray).data.toList.length ≤ 131073 := by
                  have h2 := ba_len (p ++ ⟨#[120]⟩ : ByteArray)
                  have h3 : (p ++ ⟨#[120]⟩ : ByteArray).size = p.size + 1 := by rw [ByteArray.size_append]; rfl
                  omega
                simp only [List.mem_cons, List.not_mem_nil, or_false] at hx
                rcases hx with rfl | rfl
                · exact ⟨by simp, by simp only; omega⟩
                · exact ⟨by simp, by simp only; omega⟩
            case rest =>
              obtain ⟨g, l, rfl, HV, HLE, HK1, HK2⟩ := hcut
              go_upto_region 8 with fail
              go_cut [27, 28, 29] from 27 to 29 (fun s n i wx => ∃ g2 : Nat, s = .slice (some ⟨g2, 0, none⟩) 14 14 ∧ n = .int .i64 14 ∧ i = .int .i64 0 ∧ Hid (Reads wx wx.heap.size 1 (some ⟨g2, 0, none⟩) 14 szW) ∧ Hid (Reads wx wx.heap.size 2 (some ⟨g, 0, none⟩) 2 (px l)) ∧ Hid (Kn w1 wx) ∧ Hid (Kn w wx))
              case first =>
                go_wp2_with fail
                go_meet
                exact ⟨wc.heap.size, rfl, rfl, rfl, Lib.hid (Reads.of_block (heap_alloc_new wc _) rfl), Lib.hid ((HV.out.alloc (Nat.le_refl _) _).more (by simp)), Lib.hid (HK1.out.alloc _), Lib.hid (HK2.out.alloc _)⟩
              case rest =>
                clear HV HK1 HK2
                obtain ⟨g2, rfl, rfl, rfl, HW, HV, HK1, HK2⟩ := hcut
                go_wp2_with fail
                go_loopw [29] (fun i wx => ∃ j : Nat, j ≤ 14 ∧ i = .int .i64 j ∧ Hid (Reads wx wx.heap.size 1 (some ⟨g2, 0, none⟩) 14 szW) ∧ Hid (Reads wx wx.heap.size 2 (some ⟨g, 0, none⟩) 2 (px l)) ∧ Hid (Kn w1 wx) ∧ Hid (Kn w wx)) (fun i _ => 14 - (intOf i).toNat)
                case atStart => exact ⟨0, by omega, rfl, HW, HV, HK1, HK2⟩
                case round =>
                  clear HW HV HK1 HK2
                  obtain ⟨j, hj, rfl, HW, HV, HK1, HK2⟩ := hrel
                  by_cases hjt : j < 14
                  · obtain ⟨ad, s, hA, hb, hs, c2⟩ := szW_row.at_ HW.out hjt
                    obtain rfl : (⟨g2, 0, none⟩ : Addr) = ad := by injection hA
                    have hae : (⟨g2, 0, none⟩ : Addr).add j = ⟨g2, j, none⟩ := by unfold Addr.add; split <;> simp_all
                    rw [hae] at c2
                    clear hA hb hae
                    go_wp2_with fail
                    refine (words_p _ _ (by decide) (by decide) HG.out HK2.out HV.out HLE.out).mono ?_
                    rintro e w3 ⟨rfl, h3, h3x⟩
                    have HV3 := Lib.hid (HV.out.step (Nat.le_refl _) h3x)
                    go_wp2_with fail
                    refine (docs_p _ _ (by decide) (by decide) HG.out h3 HV3.out HLE.out).mono ?_
                    rintro e w4 ⟨rfl, h4, h4x⟩
                    have HV4 := Lib.hid (HV3.out.step (Nat.le_refl _) h4x)
                    have HW4 := Lib.hid ((HW.out.step (Nat.le_refl _) h3x).step (Nat.le_refl _) h4x)
                    have HK14 := Lib.hid ((HK1.out.then h3x).then h4x)
                    have HK4 := Lib.hid h4
                    clear h3 h3x h4 h4x c2
                    go_wp2_with fail
                    go_roundw
                    case rel => exact ⟨j + 1, by omega, by go_num, HW4, HV4, HK14, HK4⟩
                    case measure => simp [intOf]; omega
                  · go_wp2_with fail
                    refine (words_p (l := []) _ _ (by decide) (by decide) HG.out HK2.out Reads.none_ (by intro p hp; cases hp)).mono ?_
                    rintro e w3 ⟨rfl, h3, h3x⟩
                    go_wp2_with fail
                    refine (plain_p (l := []) _ _ (by decide) (by decide) HG.out h3 Reads.none_ (by intro p hp; cases hp)).mono ?_
                    rintro e w4 ⟨rfl, h4, h4x⟩
                    go_wp2_with fail
                    refine (docs_p (l := []) _ _ (by decide) (by decide) HG.out h4 Reads.none_ (by intro p hp; cases hp)).mono ?_
                    rintro e w5 ⟨rfl, h5, h5x⟩
                    have HR5 := Lib.hid (HR.out.step (Nat.le_refl _) (((HK1.out.then h3x).then h4x).then h5x))
                    have HK5 := Lib.hid h5
                    clear h3 h3x h4 h4x h5 h5x
                    go_wp2_with fail
                    go_roundw
                    case rel => exact ⟨k + 1, by omega, by go_num, HR5, HK5⟩
                    case measure => simp [intOf]; omega
          · go_wp2_with fail
            refine (words_p (l := []) _ _ (by decide) (by decide) HG.out HK.out Reads.none_ (by intro p hp; cases hp)).mono ?_
            rintro e w3 ⟨rfl, h3, h3x⟩
            go_wp2_with fail
            refine (words_p (l := []) _ _ (by decide) (by decide) HG.out h3 Reads.none_ (by intro p hp; cases hp)).mono ?_
            rintro e w4 ⟨rfl, h4, h4x⟩
            go_wp2_with fail
            refine (words_p (l := []) _ _ (by decide) (by decide) HG.out h4 Reads.none_ (by intro p hp; cases hp)).mono ?_
            rintro e w5 ⟨rfl, h5, h5x⟩
            go_wp2_with fail
            go_ret
            exact ⟨rfl, h5, h5⟩
end Exp
end Go.Proofs.YtnmnhnhlggbijaaDoor
namespace Go.Proofs.YtnmnhnhlggbijaaDoor
open Go.RowKit Err
namespace Exp
open T

set_option maxHeartbeats 8000000 in
set_option maxRecDepth 100000 in
theorem nested_any (w : World) (hg : ErrTab w) : Calls Tryd.prog 22 #[] w (TruePost w w) := by
  have HG := Lib.hid hg
  clear hg
  go_enter Tryd.func22, Tryd.ntmps22
  go_wp2_with fail
  go_loopw [1, 2, 3] (fun s t n wx => ∃ (k : Nat) (p q : ByteArray), k ≤ 40 ∧ s = .string p ∧ t = .string q ∧ n = .int .i64 k ∧ Hid (1 ≤ p.size ∧ p.size ≤ 1 + 10 * k ∧ q.size ≤ 1 + 20 * k) ∧ Hid (Kn w wx)) (fun _ _ n _ => 40 - (intOf n).toNat)
  case atStart => exact ⟨0, _, _, by omega, rfl, rfl, rfl, Lib.hid (by decide), Lib.hid (Kn.refl w)⟩
  case round =>
    obtain ⟨k, p, q, hk, rfl, rfl, rfl, HS, HK⟩ := hrel
    by_cases hlt : k < 40
    · have hps := HS.out
      go_upto_region 8 with fail
      clear hps
      obtain ⟨p2, hp2⟩ : ∃ p2, ((⟨#[36, 123, 66, 58, 45, 97]⟩ : ByteArray) ++ p ++ ⟨#[125]⟩) = p2 := ⟨_, rfl⟩
      obtain ⟨q2, hq2⟩ : ∃ q2, ((⟨#[34, 36, 123, 65, 58, 43]⟩ : ByteArray) ++ q ++ ⟨#[39, 125, 39, 125, 34]⟩) = q2 := ⟨_, rfl⟩
      rw [hp2, hq2]
      have HS2 : Hid (1 ≤ p2.size ∧ p2.size ≤ 1 + 10 * (k + 1) ∧ q2.size ≤ 1 + 20 * (k + 1)) := Lib.hid (by
        have := HS.out
        subst hp2 hq2
        simp only [ByteArray.size_append]
        have e1 : (⟨#[36, 123, 66, 58, 45, 97]⟩ : ByteArray).size = 6 := rfl
        have e2 : (⟨#[125]⟩ : ByteArray).size = 1 := rfl
        have e3 : (⟨#[34, 36, 123, 65, 58, 43]⟩ : ByteArray).size = 6 := rfl
        have e4 : (⟨#[39, 125, 39, 125, 34]⟩ : ByteArray).size = 5 := rfl
        omega)
      clear hp2 hq2
      have hz := HS2.out.1
      have hz2 : p2.size ≤ 1000 := by have := HS2.out; omega
      have hq3 : q2.size ≤ 1000 := by have := HS2.out; omega
      have hw1 : IntKind.i64.wrap ((p2.size : Int) - 1) = (p2.size : Int) - 1 := IntWalk.i64_in _ (by omega)
      have hi0 : (1 : Int) ≤ (p2.size : Int) := by omega
      have hi1 : (0 : Int) ≤ (p2.size : Int) - 1 := by omega
      have hi2 : (p2.size : Int) - 1 ≤ (p2.size : Int) := by omega
      have hk0 : Kn w wr.drew := HK.out.drew
      have hsum : (9223372036854775807 < p2.size + q2.size) = False := eq_false (by omega)
      go_region_held3 (fun wy => Kn w wy) ((first | assumption | (intros; assumption))) ((first | (go_at_call 32; refine (vars_k (by assumption)).mono ?_; rintro e wv ⟨bv, rfl, hvr, hkn, hkx⟩) | (go_at_call 3; refine (words_k _ _ (by first | decide | omega) (by first | decide | omega) HG.out (by assumption) (by assumption)).mono ?_; rintro e wv ⟨rfl, hkn, hkx⟩) | (go_at_call 4; refine (docs_k _ _ (by first | decide | omega) (by first | decide | omega) HG.out (by assumption) (by assumption)).mono ?_; rintro e wv ⟨rfl, hkn, hkx⟩) | (go_at_call 33; refine (names_k _ _ (by first | decide | omega) (by first | decide | omega) (by assumption)).mono ?_; rintro e wv ⟨rfl, hkn, hkx⟩)))
      go_wp2_with fail
      go_roundw
      case rel => exact ⟨k + 1, p2, q2, by omega, rfl, rfl, by go_num, HS2, Lib.hid (by assumption)⟩
      case measure => simp [intOf]; omega
    · go_wp2_with fail
      go_loopw [4, 5, 6] (fun s t n wx => ∃ (k : Nat) (p q : ByteArray), k ≤ 2000 ∧ s = .string p ∧ t = .string q ∧ n = .int .i64 k ∧ Hid (p.size = 5 * k ∧ q.size = k) ∧ wr = wx) (fun _ _ n _ => 2000 - (intOf n).toNat)
      case atStart => exact ⟨0, _, _, by omega, rfl, rfl, rfl, Lib.hid ⟨rfl, rfl⟩, rfl⟩
      case round =>
        obtain ⟨j, p3, q3, hj, rfl, rfl, rfl, HS3, rfl⟩ := hrel
        have hz1 : p3.size ≤ 10000 := by have := HS3.out; omega
        have hz2 : q3.size ≤ 10000 := by have := HS3.out; omega
        by_cases hjt : j < 2000
        · go_wp2_with fail
          go_roundw
          case rel => exact ⟨j + 1, _, _, by omega, rfl, rfl, by go_num, Lib.hid (by
            have := HS3.out
            simp only [ByteArray.size_append]
            have e1 : (⟨#[36, 123, 66, 58, 45]⟩ : ByteArray).size = 5 := rfl
            have e2 : (⟨#[125]⟩ : ByteArray).size = 1 := rfl
            omega), trivial⟩
          case measure => simp [intOf]; omega
        · have hk0 := HK.out
          go_wp2_with fail
          refine (vars_k hk0).mono ?_
          rintro e w1 ⟨b1, rfl, hv1, hk1, _⟩
          go_wp2_with fail
          refine (words_k _ _ (by decide) (by decide) HG.out hk1 hv1).mono ?_
          rintro e w2 ⟨rfl, hk2, _⟩
          go_wp2_with fail
          refine (vars_k hk2).mono ?_
          rintro e w3 ⟨b3, rfl, hv3, hk3, _⟩
          go_wp2_with fail
          refine (words_k _ _ (by decide) (by decide) HG.out hk3 hv3).mono ?_
          rintro e w4 ⟨rfl, hk4, _⟩
          go_wp2_with fail
          refine (names_k _ _ (by decide) (by decide) hk4).mono ?_
          rintro e w5 ⟨rfl, hk5, _⟩
          go_wp2_with fail
          go_ret
          exact ⟨rfl, hk5, hk5⟩
end Exp
end Go.Proofs.YtnmnhnhlggbijaaDoor
namespace Go.Proofs.YtnmnhnhlggbijaaDoor
open Go.RowKit Err
namespace Exp
set_option maxHeartbeats 1000000 in
theorem expandKnown_any (w : World) (hg : ErrTab w) : Calls Tryd.prog 6 #[] w fun e w' => e = .returned (.bool true) ∧ Below w.heap.size w w' := by
  have HG := Lib.hid hg
  clear hg
  go_enter Tryd.func6, Tryd.ntmps6
  go_wp2_with fail
  refine (shown_any w HG.out).mono ?_
  rintro e w1 ⟨rfl, h1, _⟩
  go_wp2_with fail
  refine (short_any w1 (h1.tab HG.out)).mono ?_
  rintro e w2 ⟨rfl, h2x, _⟩
  have h2 := h1.then h2x
  clear h2x
  go_wp2_with fail
  refine (bytesK_any w2 (h2.tab HG.out)).mono ?_
  rintro e w3 ⟨rfl, h3x, _⟩
  have h3 := h2.then h3x
  clear h3x
  go_wp2_with fail
  refine (sizes_any w3 (h3.tab HG.out)).mono ?_
  rintro e w4 ⟨rfl, h4x, _⟩
  have h4 := h3.then h4x
  clear h4x
  go_wp2_with fail
  refine (nested_any w4 (h4.tab HG.out)).mono ?_
  rintro e w5 ⟨rfl, h5x, _⟩
  have h5 := h4.then h5x
  clear h5x
  go_wp2_with fail
  go_ret
  exact ⟨rfl, h5⟩
end Exp
end Go.Proofs.YtnmnhnhlggbijaaDoor
