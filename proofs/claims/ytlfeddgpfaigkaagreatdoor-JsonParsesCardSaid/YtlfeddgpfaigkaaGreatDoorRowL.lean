/-
  For every row of this seat: from the listed variables to what a walk reads; a world that holds them.
-/
import Derived.Test.YtlfeddgpfaigkaaGreatDoorJsS
import Derived.Test.YtlfeddgpfaigkaaGreatDoorRowH
import Derived.Lib.LaidU8T
import Derived.Lib.LaidIn
import Derived.Deep.DeepWitnessRowRef
namespace Go.Proofs.YtlfeddgpfaigkaaGreatDoor
open Go.ChangeShapes Go.WideShapes Go.ChangeAt Go.RowKit Err Js Go.Lib

/-- The cells of a listed variable. -/
def lCells (N : Nat) : DataW Unit → Array Value
  | .agg ps => (ps.flatMap fun d => match d with
    | .lit (.int k z) => [Value.int k z]
    | .agg qs => qs.map fun e => match e with | .lit (.int k z) => Value.int k z | _ => Value.nilIface
    | _ => []).toArray
  | .iface "*errors.errorString" _ => #[.iface 356 (.pointer (some ⟨N, 0, none⟩))]
  | _ => #[errType]
/-- The settled world with two texts more, the listed variables laid. -/
noncomputable def laidWorldJ (l : List (String × DataW Unit)) (os : Os) : World :=
  let N := (World.settled Tryz.prog os).heap.size
  let w0 := World.holding Tryz.prog os ⟨#[.cells #[.string ⟨#[118, 97, 108, 117, 101, 32, 111, 117, 116, 32, 111, 102, 32, 114, 97, 110, 103, 101]⟩] 358, .cells #[.string ⟨#[105, 110, 118, 97, 108, 105, 100, 32, 115, 121, 110, 116, 97, 120]⟩] 358], #[], []⟩
  { w0 with heap := l.foldl (fun h x => match Tryz.prog.globalNamed x.1 with
      | some g => h.modify g fun o => match o with
        | .cells _ t frozen => .cells (lCells (if x.1 = "strconv.ErrRange" then N else N + 1) x.2) t frozen
        | o => o
      | none => h) w0.heap }
theorem err_cell {H : Type} {enc : TypeId × Value → H} {P : Program} {w : World} {base : Nat} {sp : Nat → Bool} {held : Bool} {fuel : Nat} {t : TypeId} {ms : Array (String × TypeId)} {cs : List Value} {d : DataW H} {p : List MemPlace}
    (ht : P.underlying t = some (.interface ms)) (h : DataW.trod enc P w base sp held fuel t cs = some (d, p)) : ∃ x, cs = [x] ∧ (x = .nilIface ∨ ∃ te pe, x = .iface te pe) := by
  cases fuel with
  | zero => simp [DataW.trod] at h
  | succ fuel =>
    simp only [DataW.trod, ht] at h
    split at h
    · rename_i e; cases e
    · rename_i e; cases e
    · rename_i e; cases e
    · rename_i e; cases e
    all_goals first
      | (rename_i e; cases e; done)
      | (exact ⟨_, rfl, .inl rfl⟩)
      | (exact ⟨_, rfl, .inr ⟨_, _, rfl⟩⟩)
      | (cases h; done)
      | skip
theorem reads_row {W : World} {l : List (String × DataW Unit)} (h : laidMetH Tryz.prog l W) {n : String} {d : DataW Unit} (hm : (n, d) ∈ l) (hd : d.handleName?.isNone = true) : VarReads Tryz.prog W n d := by
  obtain ⟨⟨ps, hv, _⟩, _⟩ := laidMetH_iff.1 h
  exact LaidVars_reads hv n d (List.mem_filter.2 ⟨hm, hd⟩)
theorem errAt_row {W : World} {n : String} {d : DataW Unit} {g : Nat} (h : VarReads Tryz.prog W n d) (hg : Tryz.prog.globalNamed n = some g) (hty : (Tryz.prog.globals[g]?).map (·.type) = some 31) : ErrAt W g := by
  obtain ⟨g', t, cs, fuel, p, h1, h2, h3, h4⟩ := h
  obtain rfl := Option.some.inj (hg.symm.trans h1)
  obtain rfl := Option.some.inj (hty.symm.trans h2)
  obtain ⟨x, hx, hc⟩ := err_cell Tryz.underlying31 h4
  refine ⟨x, ?_, hc⟩
  have := World.var?_cell hg h3 0
  rw [this, ← Array.getElem?_toList, hx]
  rfl
theorem var_lt {W : World} {n : String} {d : DataW Unit} {g : Nat} (h : VarReads Tryz.prog W n d) (hg : Tryz.prog.globalNamed n = some g) : g < W.heap.size := by
  obtain ⟨g', t, cs, fuel, p, h1, h2, h3, h4⟩ := h
  obtain rfl := Option.some.inj (hg.symm.trans h1)
  rcases Nat.lt_or_ge g W.heap.size with h5 | h5
  · exact h5
  · unfold World.var? at h3
    rw [hg] at h3
    simp [Array.getElem?_eq_none h5] at h3
theorem st_row {W : World} (h : laidMetH Tryz.prog Rows.jsonFormRow.laid W) : St W := by
  have r8 := reads_row h (List.mem_of_getElem? (i := 1) (by rfl) : ("math/bits.deBruijn64tab", Rows.laid_math_bits_deBruijn64tab) ∈ Rows.jsonFormRow.laid) (by kernel_rfl)
  have r3 := reads_row h (List.mem_of_getElem? (i := 2) (by rfl) : ("internal/strconv.uint64pow10", Rows.laid_internal_strconv_uint64pow10) ∈ Rows.jsonFormRow.laid) (by kernel_rfl)
  have r2 := reads_row h (List.mem_of_getElem? (i := 3) (by rfl) : ("unicode/utf8.acceptRanges", Rows.laid_unicode_utf8_acceptRanges) ∈ Rows.jsonFormRow.laid) (by kernel_rfl)
  have r6 := reads_row h (List.mem_of_getElem? (i := 5) (by rfl) : ("strconv.ErrRange", Rows.laid_strconv_ErrRange) ∈ Rows.jsonFormRow.laid) (by kernel_rfl)
  have r5 := reads_row h (List.mem_of_getElem? (i := 6) (by rfl) : ("strconv.ErrSyntax", Rows.laid_strconv_ErrSyntax) ∈ Rows.jsonFormRow.laid) (by kernel_rfl)
  have r1 := reads_row h (List.mem_of_getElem? (i := 7) (by rfl) : ("unicode/utf8.first", Rows.laid_unicode_utf8_first) ∈ Rows.jsonFormRow.laid) (by kernel_rfl)
  refine ⟨var_lt r8 (by kernel_rfl : Tryz.prog.globalNamed "math/bits.deBruijn64tab" = some 8), errTab_row h (List.mem_of_getElem? (i := 4) (by rfl)), ?_, ?_, errAt_row r5 (by kernel_rfl) (by kernel_rfl), errAt_row r6 (by kernel_rfl) (by kernel_rfl)⟩
  · obtain ⟨g, t, cs, fuel, p, h1, h2, h3, h4⟩ := r3
    obtain rfl := Option.some.inj ((by kernel_rfl : Tryz.prog.globalNamed "internal/strconv.uint64pow10" = some 3).symm.trans h1)
    obtain rfl := Option.some.inj ((by kernel_rfl : (Tryz.prog.globals[3]?).map (·.type) = some 333).symm.trans h2)
    have hd : Rows.laid_internal_strconv_uint64pow10 = (Lib.tabData .u64 Lib.pow10Tab : DataW Unit) := by kernel_rfl
    rw [hd] at h4
    have hcs := cells_of_tab Tryz.underlying333 Tryz.underlying277 (by kernel_rfl) (by kernel_rfl) h4
    show Lib.TabIs Tryz.prog W "internal/strconv.uint64pow10" .u64 Lib.pow10Tab
    unfold Lib.TabIs
    rw [h3, ← hcs]
  · have e1 : Rows.laid_unicode_utf8_first = Lib.firstData := by kernel_rfl
    have e2 : Rows.laid_unicode_utf8_acceptRanges = Lib.acceptData := by kernel_rfl
    rw [e1] at r1
    rw [e2] at r2
    exact utf8Tabs_of_readsT (ρ := lays196_ren) (U8Types.of196 lays196) ⟨by kernel_rfl, by kernel_rfl, by kernel_rfl, by kernel_rfl, by kernel_rfl, by kernel_rfl, by kernel_rfl⟩ r1 r2
theorem metJ (os : Os) (args : Array Value) : laidMetH Tryz.prog Rows.jsonFormRow.laid ((laidWorldJ Rows.jsonFormRow.laid os).forCall (fun _ _ => 0) ⟨#[], args, []⟩).memory :=
  laidMetH_of_parts (laidMet_of_run' 8 (by kernel_rfl) (by kernel_rfl)) (by kernel_rfl)
theorem open_textJ {H : Type} {enc : TypeId × Value → H} {P : Program} {w : World} {base : Nat} {sp : Nat → Bool} {held : Bool} {t : TypeId} {v : Value} {d : DataW H} {ps : List MemPlace} {r : Reach} {b0 : Nat}
    (ht : P.underlying t = some .string) (hv : Value.okWide P w r b0 t v) (h : DataW.Trod enc P w base sp held t v d ps) : ∃ s : List UInt8, v = .string ⟨s.toArray⟩ ∧ s.length ≤ Rows.uptoBulk d ∧ s.length ≤ 9223372036854775807 := by
  obtain ⟨s, rfl, rfl, hs⟩ := Go.ChangeMaps.open_string ht hv h
  refine ⟨s.data.toList, by simp, by simp [Rows.uptoBulk], ?_⟩
  have h1 : s.size ≤ maxLen := by first | exact hs.2 | exact hs | (simpa using hs)
  have h2 : s.data.toList.length = s.size := Array.length_toList
  rw [h2]
  exact h1
end Go.Proofs.YtlfeddgpfaigkaaGreatDoor
