/-
  For every law of this seat: from 'the call returns true and leaves all old memory as it was' to what a row asks.
-/
import Derived.Test.YtlfeddgpfaigkaaGreatDoorKit
import Derived.Test.YtlfeddgpfaigkaaGreatDoorProg
import Derived.ProofKit
import Derived.ChangeKeysEq
import Derived.OpenShut
import Derived.Deep.DeepHandedRow
namespace Go.Proofs.YtlfeddgpfaigkaaGreatDoor
open Go.ChangeShapes Go.WideShapes Go.ChangeAt Go.RowKit

theorem own : ownKnob Tryz.prog.godebug = none := by kernel_rfl
theorem laidOut : laidOutB Tryz.prog = true := by kernel_rfl

section
variable {H : Type} {enc : TypeId × Value → H} {P : Program}
theorem trodAll_below (hl : laidOutB P = true) {W W' : World} (hb : Below W.heap.size W W') : ∀ (ts : List TypeId) (vs : List Value) (ds : List (DataW H)) (ps : List MemPlace),
    (∀ t ∈ ts, P.readableRec t = true ∧ t < P.types.size) → DataW.TrodAll enc P W 0 (fun _ => true) true ts vs ds ps → (∀ x ∈ ps, x.block < W.heap.size) →
    DataW.TrodAll enc P W' 0 (fun b => decide (b < W.heap.size)) true ts vs ds ps
  | [], vs, ds, ps, _, h, _ => by
    obtain ⟨rfl, rfl, rfl⟩ := trodAll_nil h
    rfl
  | t :: ts, vs, ds, ps, hr, h, hlt => by
    obtain ⟨v, vs', d, ds', p, q, rfl, rfl, rfl, h0, h1⟩ := trodAll_cons h
    exact ⟨p, q, Below.trod hl (hr t (by simp)).1 (hr t (by simp)).2 h0 hb (fun x hx => hlt x (by simp [hx])),
      trodAll_below hl hb ts vs' ds' q (fun t ht => hr t (by simp [ht])) h1 (fun x hx => hlt x (by simp [hx])), rfl⟩

theorem law_post {f : Func} {s : ChangeSpec} {W W' : World} {args : Array Value} {ds gs : List (DataW H)} {before : List MemPlace} {tb : TypeId}
    (hW : DataW.Whole enc P f.params.toList s.vars false W args.toList ds gs before) (hv : s.vars = []) (hr : f.resultTypes = #[tb]) (ht : P.underlying tb = some .bool)
    (hl : laidOutB P = true) (hrd : ∀ t ∈ f.params.toList, P.readableRec t = true ∧ t < P.types.size)
    (hfn : gs = [] → (s.fn H (ds ++ gs)) = { results := [.lit (.bool true)], args := ds }) (hb : Below W.heap.size W W') :
    s.post enc P f false true false false W args (.bool true) W' := by
  have hW' := hW
  obtain ⟨p, q, hA, hV, rfl, hfz, hnd⟩ := hW
  have hlt := hW'.lt
  rw [hv] at hV
  obtain ⟨rfl, rfl⟩ : gs = [] ∧ q = [] := by
    cases gs with
    | nil => exact ⟨rfl, hV⟩
    | cons _ _ => exact hV.elim
  have hf := hfn rfl
  refine ⟨ds, [], p ++ [], [], p, [], hW', ?_, ?_, ?_, hb.frame _, fun h => by cases h⟩
  · rw [hf, hr]
    exact trodAll_mk1 (shut_bool ht _)
  · rw [hf]
    exact trodAll_below hl hb _ _ _ _ hrd hA (fun x hx => hlt x (by simpa using hx))
  · rw [hf, hv]
    rfl

/-- Two arrays of bytes held against each other. -/
theorem eqItems_bytes (e : TypeId) (he : P.underlying e = some (.int .u8)) (hi : P.cellsOf e = 1) (a b : List UInt8) (w : World) (d : Nat) : ∀ (is : List Nat), (∀ i ∈ is, i < a.length ∧ i < b.length) →
    (Op.eqItems (d + 1) e (P.cellsOf e) (Lib.byteCells a).toArray (Lib.byteCells b).toArray is).run P w = .ok (decide (∀ i ∈ is, a.getD i 0 = b.getD i 0)) w := by
  have hag : (isAgg e).run P w = .ok false w := by
    unfold isAgg; rw [Sem.run_bind, run_underlying he w]; rfl
  have hp : ∀ (l : List UInt8) (k : Nat), k < l.length → (part e (Lib.byteCells l).toArray k).run P w = .ok (.int .u8 (l.getD k 0).toNat) w := by
    intro l k hk
    unfold part
    rw [Sem.run_bind, hag]
    simp [Lib.byteCells, List.getElem?_eq_getElem hk]
  intro is
  induction is with
  | nil => intro _; simp [Op.eqItems]
  | cons j is ih =>
    intro h
    have hj := h j (by simp)
    have ih' := ih (fun i hi => h i (by simp [hi]))
    rw [hi] at ih'
    simp only [Op.eqItems, hi, Nat.mul_one, Sem.run_bind, hp a j hj.1, hp b j hj.2, Result.andThen_ok, run_equalIn_int w d e _ _ _ _ he]
    by_cases hab : a.getD j 0 = b.getD j 0
    · rw [hab]
      simp only [BEq.rfl, Bool.not_true, Bool.false_eq_true, if_false, ih']
      congr 1
      rw [decide_eq_decide, List.forall_mem_cons]
      exact ⟨fun h => ⟨hab, h⟩, fun h => h.2⟩
    · have hne : (((a.getD j 0).toNat : Int) == ((b.getD j 0).toNat : Int)) = false := by
        rw [beq_eq_false_iff_ne]
        intro h
        exact hab (UInt8.toNat_inj.1 (by omega))
      rw [hne]
      simp only [Bool.not_false, if_true, Sem.run_pure]
      congr 1
      rw [eq_comm, decide_eq_false_iff_not, List.forall_mem_cons]
      exact fun h => hab h.1
theorem run_eql_bytes {T e n : Nat} {i : TypeInfo} (hT : P.underlying T = some (.array n e)) (he : P.underlying e = some (.int .u8)) (hi : P.cellsOf e = 1) (hq : P.info? e = some i)
    (a b : List UInt8) (ha : a.length = n) (hb : b.length = n) (w : World) : (binOp .eql T (.agg (Lib.byteCells a).toArray) (.agg (Lib.byteCells b).toArray)).run P w = .ok (.bool (decide (a = b))) w := by
  rw [run_eql_struct, run_equalIn_array w 9999 _ _ hT hq, eqItems_bytes e he hi a b w 9998 _ (fun i h => by simp at h; omega)]
  simp only [Result.andThen_ok]
  congr 2
  rw [decide_eq_decide]
  constructor
  · intro h
    apply List.ext_getElem (by omega)
    intro i h1 h2
    have := h i (by simp; omega)
    simpa [List.getD, List.getElem?_eq_getElem h1, List.getElem?_eq_getElem h2] using this
  · intro h _ _; rw [h]

/-- An argument that is an array of bytes. -/
theorem open_bytes {T e n : Nat} (hT : P.underlying T = some (.array n e)) (he : P.underlying e = some (.int .u8)) (hce : P.cellsOf e = 1) (hct : P.cellsOf T = n) {r : Reach} {b0 : Nat} {w : World} {v : Value} {d : DataW H} {ps : List MemPlace} {base : Nat} {sp : Nat → Bool} {held : Bool}
    (hv : Value.okWide P w r b0 T v) (h : DataW.Trod enc P w base sp held T v d ps) : ∃ bs : List UInt8, bs.length = n ∧ v = .agg (Lib.byteCells bs).toArray := by
  simp only [Value.okWide, hT] at hv
  obtain ⟨cs, rfl, hsz, _⟩ := hv
  obtain ⟨fuel, hf⟩ := h
  obtain ⟨xs, m, _, _, _, hn, hx⟩ := DataW.trod_array hT hf
  have hlen : cs.toList.length = n := by simp [hsz, hct]
  simp only [Value.cells, hce, Nat.mul_one] at hx
  have key : ∀ (l : List Value), (∀ v ∈ l, ∃ b : UInt8, v = .int .u8 b.toNat) → ∃ bs : List UInt8, l = Lib.byteCells bs := by
    intro l
    induction l with
    | nil => intro _; exact ⟨[], rfl⟩
    | cons v l ih =>
      intro h
      obtain ⟨b, rfl⟩ := h v (by simp)
      obtain ⟨bs, rfl⟩ := ih (fun v hv => h v (by simp [hv]))
      exact ⟨b :: bs, rfl⟩
  obtain ⟨bs, hbs⟩ := key cs.toList (fun v hv => by
    obtain ⟨i, hi, rfl⟩ := List.getElem_of_mem hv
    have h1 := hx i (by omega)
    rw [List.getElem?_eq_getElem (by omega), List.drop_eq_getElem_cons hi] at h1
    simp only [List.take_succ_cons, List.take_zero] at h1
    obtain ⟨z, hz, _, hw⟩ := DataW.trod_int he h1
    simp only [List.cons.injEq, and_true] at hz
    rw [hz]
    have hb : 0 ≤ z ∧ z < 256 := by
      simp [Lit.wf, IntKind.min, IntKind.max, IntKind.signed, IntKind.bits] at hw
      omega
    refine ⟨UInt8.ofNat z.toNat, ?_⟩
    rw [UInt8.toNat_ofNat']
    congr 1
    omega)
  refine ⟨bs, ?_, ?_⟩
  · rw [hbs] at hlen; simpa [Lib.byteCells] using hlen
  · rw [← hbs]
end
end Go.Proofs.YtlfeddgpfaigkaaGreatDoor
