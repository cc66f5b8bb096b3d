/-
  For every row of this seat: from a listed table to what a walk reads; a world that holds the listed tables; arguments opened with their bulk.
-/
import Derived.Test.YtgjelinnpcekmaaGreatDoorWks
import Derived.Test.YtgjelinnpcekmaaGreatDoorJE
import Derived.Test.YtgjelinnpcekmaaGreatDoorLaw
import Derived.Test.YtgjelinnpcekmaaGreatDoorRows
import Derived.Test.YtgjelinnpcekmaaGreatDoorCards
import Derived.Test.YtgjelinnpcekmaaGreatDoorTie
import Derived.Lib.LaidTab
import Derived.LaidSub
import Derived.SliceStrings
import Derived.ChangeMaps5
import Derived.SevenTiedAt
namespace Go.Proofs.YtgjelinnpcekmaaGreatDoor
open Go.ChangeShapes Go.WideShapes Go.ChangeAt Go.RowKit Err Plain Sha

/-- A listed table of numbers, wherever it stands on the list. -/
theorem laidVars_tab {P : Program} {w : World} {name : String} {k : IntKind} {zs : List Int} {g : Nat} {t e : TypeId} {n : Nat}
    (hg : P.globalNamed name = some g) (hty : (P.globals[g]?).map (·.type) = some t) (ht : P.underlying t = some (.array n e)) (he : P.underlying e = some (.int k)) (hce : P.cellsOf e = 1) (hct : P.cellsOf t = n) :
    ∀ {l : List (String × DataW Unit)} {ps : List MemPlace}, DataW.LaidVars P w l ps → (name, Lib.tabData k zs) ∈ l → Lib.TabIs P w name k zs
  | [], _, _, hm => by cases hm
  | (n', d') :: r, ps, h, hm => by
    obtain ⟨g', t', cs, fuel, p, q, h1, h2, h3, h4, h5, _⟩ := h
    rcases List.mem_cons.1 hm with e | e
    · cases e
      obtain rfl := Option.some.inj (hg.symm.trans h1)
      obtain rfl := Option.some.inj (hty.symm.trans h2)
      unfold Lib.TabIs
      rw [h3, ← Lib.cells_of_tab ht he hce hct h4]
    · exact laidVars_tab hg hty ht he hce hct h5 e
theorem tab_of_laid {P : Program} {W : World} {l : List (String × DataW Unit)} {name : String} {k : IntKind} {zs : List Int} {g : Nat} {t e : TypeId} {n : Nat}
    (hg : P.globalNamed name = some g) (hty : (P.globals[g]?).map (·.type) = some t) (ht : P.underlying t = some (.array n e)) (he : P.underlying e = some (.int k)) (hce : P.cellsOf e = 1) (hct : P.cellsOf t = n)
    (h : laidMetH P l W) (hm : (name, Lib.tabData k zs) ∈ l) : Lib.TabIs P W name k zs := by
  obtain ⟨⟨ps, hv, _⟩, _⟩ := laidMetH_iff.1 h
  exact laidVars_tab hg hty ht he hce hct hv (List.mem_filter.2 ⟨hm, rfl⟩)

theorem eh_named : Tryz.prog.globalNamed "errors.errorType" = some 3 := by kernel_rfl
theorem eh_rt : (Tryz.prog.cutTypes.find? (·.1 == "internal/reflectlite.rtype")).map (·.2) = some 125 := by kernel_rfl
theorem eh_row : ((List.range 179).filter fun t => Tryz.prog.rowNamed t [101, 114, 114, 111, 114]) = [46] := by kernel_rfl
theorem eh_size : Tryz.prog.types.size = 179 := by kernel_rfl
/-- What the condition gives a walk: the cell of errors.errorType. -/
theorem errTab_row {W : World} {l : List (String × DataW Unit)} (h : laidMetH Tryz.prog l W) (hm : ("errors.errorType", Rows.laid_errors_errorType) ∈ l) : ErrTab W := by
  obtain ⟨_, hh⟩ := laidMetH_iff.1 h
  obtain ⟨name, u, ty, e1, e2, e3, e4, e5⟩ := hh _ (List.mem_filter.2 ⟨hm, rfl⟩)
  have en : name = [101, 114, 114, 111, 114] := (Option.some.inj e1).symm
  subst en
  obtain rfl := Option.some.inj (eh_rt.symm.trans e2)
  have hm : ty ∈ (List.range 179).filter fun t => Tryz.prog.rowNamed t [101, 114, 114, 111, 114] := List.mem_filter.2 ⟨List.mem_range.2 (by rw [← eh_size]; exact e3), e4⟩
  rw [eh_row] at hm
  obtain rfl := List.mem_singleton.1 hm
  have hh : typeHandle Tryz.prog 46 = .pointer (some ⟨7, 46, none⟩) := by kernel_rfl
  rw [hh] at e5
  unfold ErrTab errType
  simpa using World.var?_cell eh_named e5 0

theorem ktab_named : Tryz.prog.globalNamed "strata/digest.rounds" = some 1 := by kernel_rfl
theorem kInts_len : kInts.length = 64 := by simp [kInts, kTab]
theorem ktab_ints (k : Nat) (hk : k < 64) : Value.int .u32 (kInts.getD k 0) = W (kTab.getD k 0) := by
  unfold W
  have hl : k < kTab.length := by simpa [kTab] using hk
  simp only [kInts, List.getD, List.getElem?_map, List.getElem?_eq_getElem hl, Option.map_some, Option.getD_some]
/-- What the condition gives a walk: the table of the rounds' numbers. -/
theorem ktab_row {W : World} {l : List (String × DataW Unit)} (h : laidMetH Tryz.prog l W) (hm : ("strata/digest.rounds", Rows.laid_strata_digest_rounds) ∈ l) : KTab W := by
  have ht : Lib.TabIs Tryz.prog W "strata/digest.rounds" .u32 kInts :=
    tab_of_laid (t := 106) (e := 79) (n := 64) ktab_named (by kernel_rfl) Tryz.underlying106 Tryz.underlying79 (by kernel_rfl) (by kernel_rfl) h hm
  intro k hk
  rw [← ktab_ints k hk]
  exact ht.cell ktab_named k (by rw [kInts_len]; exact hk)
theorem tab10_row {W : World} {l : List (String × DataW Unit)} (h : laidMetH Tryz.prog l W) (hm : ("internal/strconv.uint64pow10", Rows.laid_internal_strconv_uint64pow10) ∈ l) : Tab10 W :=
  tab_of_laid (t := 147) (e := 84) (n := 20) tab10_named (by kernel_rfl) Tryz.underlying147 Tryz.underlying84 (by kernel_rfl) (by kernel_rfl) h hm

/-- The cells of a listed table. -/
def tabCells : DataW Unit → Array Value
  | .agg ps => (ps.map fun d => match d with | .lit (.int k z) => Value.int k z | _ => Value.nilIface).toArray
  | _ => #[errType]
/-- The settled world, the tables of this list laid. -/
noncomputable def laidWorld (l : List (String × DataW Unit)) (os : Os) : World :=
  let w0 := World.holding Tryz.prog os ⟨#[], #[], []⟩
  { w0 with heap := l.foldl (fun h x => match Tryz.prog.globalNamed x.1 with
      | some g => h.modify g fun o => match o with
        | .cells _ t frozen => .cells (tabCells x.2) t frozen
        | o => o
      | none => h) w0.heap }

/-- No law of this seat's needs a stand-in. -/
theorem no_standIn {b : Bool} {name : String} {f : FuncId} {fn : Func} (h1 : Tryz.prog.funcNamed name = some f) (h2 : Tryz.prog.funcs[f]? = some fn) (hl : b = Tryz.prog.looks []) (hw : fn.params.all (fun t => !Tryz.prog.wantsStandIn t) = true)
    (f' : FuncId) (fn' : Func) (hf : Tryz.pinned.checked.prog.funcNamed name = some f') (hfn : Tryz.pinned.checked.prog.funcs[f']? = some fn') :
    b = Tryz.pinned.checked.prog.looks [] ∧ ∀ (j : Nat) t, fn'.params[j]? = some t → Tryz.pinned.checked.prog.wantsStandIn t = false := by
  obtain rfl : f' = f := Option.some.inj (h1.symm.trans hf) |>.symm
  obtain rfl : fn' = fn := (Option.some.inj (h2.symm.trans hfn)).symm
  refine ⟨hl, fun j t ht => ?_⟩
  have := Array.all_eq_true_iff_forall_mem.1 hw t (Array.mem_of_getElem? ht)
  exact (by simpa using this : Tryz.prog.wantsStandIn t = false)

theorem bulk_strs {H : Type} (ss : List ByteArray) : Rows.uptoBulkAll (strs ss : List (DataW H)) = total (ss.map fun s => s.data.toList) + ss.length := by
  induction ss with
  | nil => simp [strs, Rows.uptoBulkAll, total]
  | cons s r ih =>
    have e : (strs (s :: r) : List (DataW H)) = .lit (.string s.data.toList) :: strs r := rfl
    rw [e, Rows.uptoBulkAll, ih, Rows.uptoBulk]
    simp only [total, List.map_cons, List.sum_cons, List.length_cons]
    omega

/-- An argument that is a list of texts: it reads as one, and its bulk holds all of it. -/
theorem open_texts {H : Type} {enc : TypeId × Value → H} {P : Program} {w : World} {base : Nat} {sp : Nat → Bool} {held : Bool} {t e : TypeId} {r : Reach} {b0 : Nat} {v : Value} {d : DataW H} {ps : List MemPlace}
    (ht : P.underlying t = some (.slice e)) (he : P.underlying e = some .string) (hc : P.cellsOf e = 1) (hv : Value.okWide P w r b0 t v) (h : DataW.Trod enc P w base sp held t v d ps) :
    ∃ A n c l, v = .slice A n c ∧ Reads w w.heap.size 1 A n (tx l) ∧ total l + l.length ≤ Rows.uptoBulk d := by
  obtain ⟨a0, len, cap, rfl⟩ := okWide_slice ht hv
  obtain ⟨fuel, hf⟩ := h
  rcases open_strings ht he hc hf with ⟨hcs, hx⟩ | ⟨a, len', cap', ss, hcs, _, hl, hm, hz, hx, hcell, hsz⟩
  · simp only [Value.cells, List.cons.injEq, Value.slice.injEq, and_true] at hcs
    obtain ⟨rfl, rfl, rfl⟩ := hcs
    exact ⟨none, 0, 0, [], rfl, Reads.none_, by simp [total]⟩
  · simp only [Value.cells, List.cons.injEq, Value.slice.injEq, and_true] at hcs
    obtain ⟨rfl, rfl, rfl⟩ := hcs
    injection hx with hd _
    subst hd
    have hlen : len ≤ ss.length := by rw [hz]; split <;> omega
    refine ⟨some a, len, cap, (ss.take len).map fun s => s.data.toList, rfl, ⟨?_, fun hn => ⟨a, rfl, ?_, ?_⟩⟩, ?_⟩
    · rw [tx_length]; simp; omega
    · have h0 := hcell 0 (by omega)
      rcases Nat.lt_or_ge a.block w.heap.size with h1 | h1
      · exact h1
      · unfold World.cell? at h0
        rw [show (a.add 0).block = a.block from block_of_add a 0, Array.getElem?_eq_none h1] at h0
        cases h0
    · intro j u hu
      have hj : j < len := by
        have := (List.getElem?_eq_some_iff.1 hu).1
        rw [tx_length] at this; simp at this; omega
      have hs : j < ss.length := by omega
      rw [hcell j hs, ← hu]
      simp only [tx, List.map_map, List.getElem?_map, List.getElem?_take, if_pos hj, List.getElem?_eq_getElem hs, Option.map_some, Function.comp, List.getD, Option.getD_some]
    · rw [Rows.uptoBulk, bulk_strs]
      simp only [List.length_map]
      omega
theorem open_text {H : Type} {enc : TypeId × Value → H} {P : Program} {w : World} {base : Nat} {sp : Nat → Bool} {held : Bool} {t : TypeId} {v : Value} {d : DataW H} {ps : List MemPlace} {r : Reach} {b0 : Nat}
    (ht : P.underlying t = some .string) (hv : Value.okWide P w r b0 t v) (h : DataW.Trod enc P w base sp held t v d ps) : ∃ s : List UInt8, v = .string ⟨s.toArray⟩ ∧ s.length ≤ Rows.uptoBulk d := by
  obtain ⟨s, rfl, rfl, _⟩ := Go.ChangeMaps.open_string ht hv h
  exact ⟨s.data.toList, by simp, by simp [Rows.uptoBulk]⟩
theorem open_u8 {H : Type} {enc : TypeId × Value → H} {P : Program} {w : World} {base : Nat} {sp : Nat → Bool} {held : Bool} {t : TypeId} {v : Value} {d : DataW H} {ps : List MemPlace} {r : Reach} {b0 : Nat}
    (ht : P.underlying t = some (.int .u8)) (hv : Value.okWide P w r b0 t v) (h : DataW.Trod enc P w base sp held t v d ps) : ∃ c : UInt8, v = .int .u8 c.toNat := by
  obtain ⟨n, rfl, _, _, hw⟩ := Go.ChangeShapes.open_int ht hv h
  have hb : 0 ≤ n ∧ n < 256 := by
    have h0 : IntKind.u8.min = 0 := rfl
    have h1 : IntKind.u8.max = 255 := rfl
    simp [Lit.wf] at hw
    omega
  refine ⟨UInt8.ofNat n.toNat, ?_⟩
  rw [UInt8.toNat_ofNat']
  congr 1
  omega
end Go.Proofs.YtgjelinnpcekmaaGreatDoor
