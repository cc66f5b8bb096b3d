/-
  For every row of this seat: from the listed variable errors.errorType to what a walk reads; a world that holds it; arguments opened with their bulk.
-/
import Derived.Test.YtlfeddgpfaigkaaGreatDoorErrB
import Derived.Test.YtlfeddgpfaigkaaGreatDoorLaw
import Derived.Test.YtlfeddgpfaigkaaGreatDoorMem
import Derived.Test.YtlfeddgpfaigkaaGreatDoorRows
import Derived.Test.YtlfeddgpfaigkaaGreatDoorCards
import Derived.Test.YtlfeddgpfaigkaaGreatDoorTie
import Derived.LaidSub
import Derived.SliceStrings
import Derived.ChangeMaps5
import Derived.SevenTiedAt
namespace Go.Proofs.YtlfeddgpfaigkaaGreatDoor
open Go.ChangeShapes Go.WideShapes Go.ChangeAt Go.RowKit Err

theorem eh_named : Tryz.prog.globalNamed "errors.errorType" = some 0 := by kernel_rfl
theorem eh_rt : (Tryz.prog.cutTypes.find? (·.1 == "internal/reflectlite.rtype")).map (·.2) = some 287 := by kernel_rfl
theorem eh_row : ((List.range 390).filter fun t => Tryz.prog.rowNamed t [101, 114, 114, 111, 114]) = [31] := by kernel_rfl
theorem eh_size : Tryz.prog.types.size = 390 := by kernel_rfl
/-- What the condition gives a walk: the cell of errors.errorType. -/
theorem errTab_row {W : World} {l : List (String × DataW Unit)} (h : laidMetH Tryz.prog l W) (hm : ("errors.errorType", Rows.laid_errors_errorType) ∈ l) : ErrTab W := by
  obtain ⟨_, hh⟩ := laidMetH_iff.1 h
  obtain ⟨name, u, ty, e1, e2, e3, e4, e5⟩ := hh _ (List.mem_filter.2 ⟨hm, rfl⟩)
  have en : name = [101, 114, 114, 111, 114] := (Option.some.inj e1).symm
  subst en
  obtain rfl := Option.some.inj (eh_rt.symm.trans e2)
  have hm : ty ∈ (List.range 390).filter fun t => Tryz.prog.rowNamed t [101, 114, 114, 111, 114] := List.mem_filter.2 ⟨List.mem_range.2 (by rw [← eh_size]; exact e3), e4⟩
  rw [eh_row] at hm
  obtain rfl := List.mem_singleton.1 hm
  have hh : typeHandle Tryz.prog 31 = .pointer (some ⟨9, 31, none⟩) := by kernel_rfl
  rw [hh] at e5
  unfold ErrTab errType
  simpa using World.var?_cell eh_named e5 0

/-- The cells of a listed table. -/
def tabCells : DataW Unit → Array Value
  | .agg ps => (ps.map fun d => match d with | .lit (.int k z) => Value.int k z | _ => Value.nilIface).toArray
  | _ => #[errType]
/-- The settled world, the listed variables laid. -/
noncomputable def laidWorld (l : List (String × DataW Unit)) (os : Os) : World :=
  let w0 := World.holding Tryz.prog os ⟨#[], #[], []⟩
  { w0 with heap := l.foldl (fun h x => match Tryz.prog.globalNamed x.1 with
      | some g => h.modify g fun o => match o with
        | .cells _ t frozen => .cells (tabCells x.2) t frozen
        | o => o
      | none => h) w0.heap }

/-- No law of this seat's needs a stand-in. -/
theorem no_standIn {b : Bool} {name : String} {f : FuncId} {fn : Func} (h1 : Tryz.prog.funcNamed name = some f) (h2 : Tryz.prog.funcs[f]? = some fn) (hl : b = Tryz.prog.looks []) (hw : fn.params.all (fun t => !Tryz.prog.wantsStandIn t) = true)
    (f' : FuncId) (fn' : Func) (hf : Tryz.pinned.checked.prog.funcNamed name = some f') (hfn : Tryz.pinned.checked.prog.funcs[f']? = some fn') :
    b = Tryz.pinned.checked.prog.looks [] ∧ ∀ (j : Nat) t, fn'.params[j]? = some t → Tryz.pinned.checked.prog.wantsStandIn t = false := by
  obtain rfl : f' = f := Option.some.inj (h1.symm.trans hf) |>.symm
  obtain rfl : fn' = fn := (Option.some.inj (h2.symm.trans hfn)).symm
  refine ⟨hl, fun j t ht => ?_⟩
  have := Array.all_eq_true_iff_forall_mem.1 hw t (Array.mem_of_getElem? ht)
  exact (by simpa using this : Tryz.prog.wantsStandIn t = false)

theorem open_text {H : Type} {enc : TypeId × Value → H} {P : Program} {w : World} {base : Nat} {sp : Nat → Bool} {held : Bool} {t : TypeId} {v : Value} {d : DataW H} {ps : List MemPlace} {r : Reach} {b0 : Nat}
    (ht : P.underlying t = some .string) (hv : Value.okWide P w r b0 t v) (h : DataW.Trod enc P w base sp held t v d ps) : ∃ s : List UInt8, v = .string ⟨s.toArray⟩ ∧ s.length ≤ Rows.uptoBulk d := by
  obtain ⟨s, rfl, rfl, _⟩ := Go.ChangeMaps.open_string ht hv h
  exact ⟨s.data.toList, by simp, by simp [Rows.uptoBulk]⟩
theorem open_u8 {H : Type} {enc : TypeId × Value → H} {P : Program} {w : World} {base : Nat} {sp : Nat → Bool} {held : Bool} {t : TypeId} {v : Value} {d : DataW H} {ps : List MemPlace} {r : Reach} {b0 : Nat}
    (ht : P.underlying t = some (.int .u8)) (hv : Value.okWide P w r b0 t v) (h : DataW.Trod enc P w base sp held t v d ps) : ∃ c : UInt8, v = .int .u8 c.toNat := by
  obtain ⟨n, rfl, _, _, hw⟩ := Go.ChangeShapes.open_int ht hv h
  have hb : 0 ≤ n ∧ n < 256 := by
    have h0 : IntKind.u8.min = 0 := rfl
    have h1 : IntKind.u8.max = 255 := rfl
    simp [Lit.wf] at hw
    omega
  refine ⟨UInt8.ofNat n.toNat, ?_⟩
  rw [UInt8.toNat_ofNat']
  congr 1
  omega
end Go.Proofs.YtlfeddgpfaigkaaGreatDoor
