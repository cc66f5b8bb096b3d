/-
  The lists in what is parsed: each the call's own, none in another's memory.
  What Parse and the document's Parse answer, side by side; the lists of two values.
  The walk of stratalaw04.JsonParses at this seat.
-/
import Derived.Test.YtlfeddgpfaigkaaGreatDoorJsAv
import Derived.Test.YtlfeddgpfaigkaaGreatDoorJsQv
import Derived.Test.YtlfeddgpfaigkaaGreatDoorJsWk
namespace Go.Proofs.YtlfeddgpfaigkaaGreatDoor
open Go.RowKit Err
namespace Js
theorem keys_le {d : Nat} {h : Hd} {n : Nat} (ht : trimH h = h) (ho : own d h n = 0) : h.keys.length ≤ n := by
  by_cases h6 : h.kind = 6
  · exact Nat.le_of_eq ((own_zero ho).2.2.2.1 h6)
  · have e : h.keys = [] := by
      rw [← ht]
      unfold trimH
      split
      · rfl
      split
      · rfl
      first | rfl | (rw [if_neg h6]; rfl)
    rw [e]; exact Nat.zero_le _
theorem wrongs_parts {d : Nat} {h : Hd} {k : F} (ht : trimK h k = k) (hw : wrongs d h k = 0) : own d h k.len = 0 ∧ trim k = k ∧ wrongsF (d + 1) k = 0 := by
  unfold wrongs at hw
  by_cases ho : own d h k.len = 0
  · refine ⟨ho, ?_⟩
    simp only [ho, ne_eq, not_true_eq_false, if_false] at hw
    unfold trimK at ht
    have hk := (own_zero ho).2.2.1
    by_cases h5 : 5 ≤ h.kind
    · rw [if_pos h5] at hw
      rw [if_pos (by omega)] at ht
      exact ⟨ht, hw⟩
    · rw [if_neg (by omega)] at ht
      subst ht
      exact ⟨rfl, rfl⟩
  · simp [ho] at hw
theorem ot_lists {w : World} {B : Nat} : ∀ (f : F) (d : Nat) (vs : List Value) (bs : List Nat), OT encJ w B 25 9 f vs bs → trim f = f → wrongsF d f = 0 → ∃ js ts, TG w (· ∈ bs) f vs js ts ∧ js.length = f.sz ∧ ts.length = f.sz ∧
    (∀ v ∈ js, ∃ n xs, w.ownsRow B 25 5 v n xs ∧ n ≤ f.sz) ∧ (∀ v ∈ ts, ∃ n xs, w.ownsRow B 9 1 v n xs ∧ n ≤ f.sz) ∧ (js.flatMap ob ++ ts.flatMap ob).Perm bs
  | .nil, _, vs, bs, h, _, _ => by
    obtain ⟨rfl, rfl⟩ := h
    exact ⟨[], [], ⟨rfl, rfl, rfl⟩, rfl, rfl, by simp, by simp, by simp⟩
  | .cons h0 k r, d, vs, bs, h, ht, hw => by
    obtain ⟨iv, kv, us, rest, b1, b2, rfl, l1, l2, h1, h2, h3, h4, rfl⟩ := h
    rw [trim_cons] at ht
    injection ht with t1 t2 t3
    obtain ⟨w1, w2⟩ := wrongsF_zero hw
    obtain ⟨o1, o2, o3⟩ := wrongs_parts t2 w1
    have hkl := keys_le t1 o1
    have hks := k.len_sz
    obtain ⟨j1, s1, g1, n1, m1, p1, q1, e1⟩ := ot_lists k (d + 1) us b1 h2 o2 o3
    obtain ⟨j2, s2, g2, n2, m2, p2, q2, e2⟩ := ot_lists r d rest b2 h4 t3 w2
    obtain ⟨A, c, rfl, r1⟩ := RdS.of_own h1
    obtain ⟨A', c', rfl, r3⟩ := RdS.of_own h3
    refine ⟨.slice A k.len c :: (j1 ++ j2), s1 ++ (.slice A' h0.keys.length c' :: s2), ⟨A, c, A', c', us, rest, j1, s1, j2, s2, rfl, l1, r1.more (fun b hb => List.mem_append_left _ (by simp [ob, hb])), tg_more g1 (fun b hb => List.mem_append_right _ (List.mem_append_left _ hb)), tg_more g2 (fun b hb => List.mem_append_right _ (List.mem_append_right _ (List.mem_append_right _ hb))), rfl, rfl⟩, ?_, ?_, ?_, ?_, ?_⟩
    · simp only [List.length_cons, List.length_append, F.sz]; omega
    · simp only [List.length_cons, List.length_append, F.sz]; omega
    · intro v hv
      simp only [F.sz]
      rcases List.mem_cons.1 hv with rfl | hv
      · exact ⟨_, _, h1, by omega⟩
      rcases List.mem_append.1 hv with hv | hv
      · obtain ⟨n, xs, ha, hb⟩ := p1 v hv; exact ⟨n, xs, ha, by omega⟩
      · obtain ⟨n, xs, ha, hb⟩ := p2 v hv; exact ⟨n, xs, ha, by omega⟩
    · intro v hv
      simp only [F.sz]
      rcases List.mem_append.1 hv with hv | hv
      · obtain ⟨n, xs, ha, hb⟩ := q1 v hv; exact ⟨n, xs, ha, by omega⟩
      rcases List.mem_cons.1 hv with rfl | hv
      · exact ⟨_, _, h3, by omega⟩
      · obtain ⟨n, xs, ha, hb⟩ := q2 v hv; exact ⟨n, xs, ha, by omega⟩
    · simp only [List.flatMap_cons, List.flatMap_append]
      refine List.Perm.trans ?_ ((List.Perm.refl _).append (e1.append ((List.Perm.refl _).append e2)))
      rw [List.perm_iff_count]
      intro a
      simp only [List.count_append]
      omega
where
  tg_more {w : World} {S S' : Nat → Prop} {f : F} {vs js ts : List Value} (h : TG w S f vs js ts) (hS : ∀ b, S b → S' b) : TG w S' f vs js ts := by
    induction f generalizing vs js ts with
    | nil => exact h
    | cons h0 k r ih1 ih2 =>
      obtain ⟨A, c, A', c', us, rest, j1, t1, j2, t2, e, hl, h1, h2, h3, e2, e3⟩ := h
      exact ⟨A, c, A', c', us, rest, j1, t1, j2, t2, e, hl, h1.more hS, ih1 h2, ih2 h3, e2, e3⟩
/-- Rows out of a list of owned values. -/
theorem rws_of {w : World} {B size M : Nat} {e : TypeId} {l : List Value} (h : ∀ v ∈ l, ∃ n xs, w.ownsRow B e size v n xs ∧ n ≤ M) (hn : (l.flatMap ob).Nodup) :
    ∃ N X, Rws w B e size l.length (fun k => l.getD k undef) N X ∧ ∀ k, k < l.length → N k ≤ M := by
  have hg : ∀ k, k < l.length → ∃ n xs, w.ownsRow B e size (l.getD k undef) n xs ∧ n ≤ M := fun k hk => h _ (by
    rw [List.getD, List.getElem?_eq_getElem hk]
    exact List.getElem_mem hk)
  refine ⟨fun k => if hk : k < l.length then (hg k hk).choose else 0, fun k => if hk : k < l.length then (hg k hk).choose_spec.choose else [], ⟨fun k hk => ?_, fun i j hi hj hij => ?_⟩, fun k hk => ?_⟩
  · simp only [hk, dif_pos]; exact (hg k hk).choose_spec.choose_spec.1
  · have hp := (List.pairwise_flatMap.1 hn).2
    rw [List.pairwise_iff_getElem] at hp
    simp only [List.getD, List.getElem?_eq_getElem hi, List.getElem?_eq_getElem hj, Option.getD_some]
    cases hb : l[i].ownBlock with
    | none => exact .inl rfl
    | some b =>
      refine .inr fun e => ?_
      have m1 : b ∈ ob l[i] := by simp [ob, hb]
      have m2 : b ∈ ob l[j] := by simp [ob, ← e]
      rcases Nat.lt_or_gt_of_ne hij with hlt | hlt
      · exact hp i j hi hj hlt b m1 b m2 rfl
      · exact hp j i hj hi hlt b m2 b m1 rfl
  · simp only [hk, dif_pos]; exact (hg k hk).choose_spec.choose_spec.2
/-- What Parse answers: a value with its lists, all the call's own. -/
def PG (s : List UInt8) (w : World) (x : Ending) (w' : World) : Prop :=
  ∃ h k iv kv bs e, x = .returned (.tuple #[.agg #[.int .i64 h.kind, .int .i64 h.num, .string ⟨h.text.toArray⟩, iv, kv], e]) ∧ OT encJ w' w.heap.size 25 9 (.cons h k .nil) (jcells h iv kv) bs ∧ bs.Nodup ∧ Below w.heap.size w w' ∧
    trim (.cons h k .nil) = .cons h k .nil ∧ wrongsF 1 (.cons h k .nil) = 0 ∧ k.sz ≤ 4194304 ∧
    ((∃ r, parse s = .ok h k r ∧ e = .nilIface) ∨ (h = ⟨0, 0, [], []⟩ ∧ k = .nil ∧ ∃ (no : Nat) (r : List UInt8) (a : Nat), parse s = .err no r ∧ a + r.length = s.length ∧ e = faultV no a))
theorem pg_of {s : List UInt8} {w w' : World} {x : Ending} (hx : PaPost s w x w') : PG s w x w' := by
  unfold PaPost at hx
  cases hp : parse s with
  | err no r =>
    rw [hp] at hx
    obtain ⟨a, ha, rfl, hb⟩ := hx
    refine ⟨⟨0, 0, [], []⟩, .nil, .slice none 0 0, .slice none 0 0, [], _, rfl, ⟨.slice none 0 0, .slice none 0 0, [], [], [], [], rfl, by simp [F.len], by simp, World.ownsRow_nil _ _ _ _, ⟨rfl, rfl⟩, World.ownsRow_nil _ _ _ _, ⟨rfl, rfl⟩, rfl⟩, by simp, hb, by decide +kernel, by decide +kernel, by simp [F.sz], Or.inr ⟨rfl, rfl, no, r, a, hp, ha, rfl⟩⟩
  | ok h k r =>
    rw [hp] at hx
    obtain ⟨iv, kv, bs, rfl, hot, hnd, hb⟩ := hx
    obtain ⟨h1, h2, h3, q, h4, h5⟩ := parse_ok hp
    obtain ⟨_, _, g3, _⟩ := parse_good hp
    obtain ⟨t1, t2⟩ := val_trim h4
    have hz := val_sz h4
    exact ⟨h, k, iv, kv, bs, _, rfl, hot, hnd, hb, by rw [trim_cons, t1, t2]; rfl, by rw [wrongsF_cons, g3]; rfl, by omega, Or.inl ⟨r, hp, rfl⟩⟩
end Js
end Go.Proofs.YtlfeddgpfaigkaaGreatDoor
namespace Go.Proofs.YtlfeddgpfaigkaaGreatDoor
open Go.RowKit Err
namespace Js
/-- An error beside its number and place. -/
def Ev (e : Value) (no pl : Nat) : Prop := (e = .nilIface ∧ no = 0 ∧ pl = 0) ∨ (e = .iface 98 (.agg #[.int .i64 no, .int .i64 0, .int .i64 pl]) ∧ 1 ≤ no ∧ no ≤ 11)
theorem at_any {e : Value} {no pl : Nat} (h : Ev e no pl) (w : World) (hst : St w) : Calls Tryz.prog 18 #[e, .int .i64 (no : Int), .int .i64 0, .int .i64 (pl : Int)] w fun x w' => x = .returned (.bool true) ∧ Below w.heap.size w w' := by
  rcases h with ⟨rfl, rfl, rfl⟩ | ⟨rfl, h1, h2⟩
  · exact (Err.at_nil 0 0 w).mono fun x w' h => ⟨h.1, by rw [← h.2]; exact Below.refl _ _⟩
  · exact Err.at_fault no 0 pl h1 (by omega) w hst.err
/-- A value's lists. -/
structure TP (w : World) (B : Nat) (h : Hd) (k : F) (iv kv : Value) (A : Option Addr) (c : Nat) (A' : Option Addr) (c' : Nat) (us j1 t1 : List Value) (bs : List Nat) : Prop where
  eiv : iv = .slice A k.len c
  ekv : kv = .slice A' h.keys.length c'
  len : k.len ≤ 4398046511104
  rd : RdS w (· ∈ bs) 5 A k.len us
  tg : TG w (· ∈ bs) k us j1 t1
  jl : j1.length = k.sz
  tl : t1.length = k.sz
  jo : ∀ v ∈ Value.slice A k.len c :: j1, ∃ n xs, w.ownsRow B 25 5 v n xs ∧ n ≤ k.sz + 1
  ko : ∀ v ∈ t1 ++ [Value.slice A' h.keys.length c'], ∃ n xs, w.ownsRow B 9 1 v n xs ∧ n ≤ k.sz + 1
  pm : ((Value.slice A k.len c :: j1).flatMap ob ++ (t1 ++ [Value.slice A' h.keys.length c']).flatMap ob).Perm bs
  lt : ∀ b ∈ bs, B ≤ b ∧ b < w.heap.size
  nd : bs.Nodup
  tv : TV encJ w (· ∈ bs) h k (jcells h iv kv)
/-- What Parse answers, beside the document's answer. -/
def PH (h : Hd) (k : F) (no pl : Nat) (w : World) (x : Ending) (w' : World) : Prop :=
  ∃ iv kv e A c A' c' us j1 t1 bs, x = .returned (.tuple #[.agg #[.int .i64 h.kind, .int .i64 h.num, .string ⟨h.text.toArray⟩, iv, kv], e]) ∧ TP w' w.heap.size h k iv kv A c A' c' us j1 t1 bs ∧ Ev e no pl ∧ Below w.heap.size w w'
theorem tp_of {w : World} {B : Nat} {h : Hd} {k : F} {iv kv : Value} {bs : List Nat} (ho : OT encJ w B 25 9 (.cons h k .nil) (jcells h iv kv) bs) (hn : bs.Nodup) (ht : trim (.cons h k .nil) = .cons h k .nil) (hw : wrongsF 1 (.cons h k .nil) = 0) :
    ∃ A c A' c' us j1 t1, TP w B h k iv kv A c A' c' us j1 t1 bs := by
  obtain ⟨js, ts, htg, e1, e2, hj, hto, hp⟩ := ot_lists _ 1 _ _ ho ht hw
  obtain ⟨A, c, A', c', us, rest, j1, t1, j2, t2, hv, hl, hr, htg1, ⟨rfl, rfl, rfl⟩, rfl, rfl⟩ := htg
  have htv := (ho.tr rfl).tv
  simp only [jcells, List.append_nil, List.cons.injEq, and_true, true_and] at hv
  simp only [List.append_nil] at hj hto hp e1 e2
  simp only [List.length_cons, List.length_append, List.length_nil, F.sz] at e1 e2 hj hto
  exact ⟨A, c, A', c', us, j1, t1, hv.1, hv.2, hl, hr, htg1, by omega, by omega, hj, hto, hp, ho.lt, hn, htv⟩
theorem ph_of {s : List UInt8} {h : Hd} {k : F} {no pl : Nat} {w w' : World} {x : Ending} (hr : (∃ r, parse s = .ok h k r ∧ no = 0 ∧ pl = 0) ∨ (h = ⟨0, 0, [], []⟩ ∧ k = .nil ∧ ∃ r, parse s = .err no r ∧ pl + r.length = s.length)) (hx : PaPost s w x w') : PH h k no pl w x w' ∧ k.sz ≤ 4194304 := by
  obtain ⟨h', k', iv, kv, bs, e, rfl, ho, hn, hb, ht, hw, hz, hc⟩ := pg_of hx
  obtain ⟨A, c, A', c', us, j1, t1, htp⟩ := tp_of ho hn ht hw
  rcases hr with ⟨r, hp, rfl, rfl⟩ | ⟨rfl, rfl, r, hp, hpl⟩
  · rcases hc with ⟨r', hp', rfl⟩ | ⟨_, _, no', r', a, hp', _⟩
    · rw [hp] at hp'
      injection hp' with e1 e2 _
      subst e1 e2
      exact ⟨⟨iv, kv, _, A, c, A', c', us, j1, t1, bs, rfl, htp, .inl ⟨rfl, rfl, rfl⟩, hb⟩, hz⟩
    · rw [hp] at hp'; cases hp'
  · rcases hc with ⟨r', hp', rfl⟩ | ⟨rfl, rfl, no', r', a, hp', ha, rfl⟩
    · rw [hp] at hp'; cases hp'
    · rw [hp] at hp'
      injection hp' with e1 e2
      subst e1 e2
      obtain rfl : a = pl := by omega
      obtain ⟨n1, n2, _⟩ := parse_err hp
      exact ⟨⟨iv, kv, _, A, c, A', c', us, j1, t1, bs, rfl, htp, .inr ⟨rfl, n1, n2⟩, hb⟩, hz⟩
theorem lists_two {Ja Jb Ta Tb : List Value} {ba bb : List Nat} (pa : (Ja.flatMap ob ++ Ta.flatMap ob).Perm ba) (pb : (Jb.flatMap ob ++ Tb.flatMap ob).Perm bb) (na : ba.Nodup) (nb : bb.Nodup) (hd : ∀ x ∈ ba, ∀ y ∈ bb, x ≠ y) :
    ((Ja ++ Jb).flatMap ob).Nodup ∧ ((Ta ++ Tb).flatMap ob).Nodup := by
  have ma := List.nodup_append.1 (pa.nodup_iff.2 na)
  have mb := List.nodup_append.1 (pb.nodup_iff.2 nb)
  have ia : ∀ x, (x ∈ Ja.flatMap ob ∨ x ∈ Ta.flatMap ob) → x ∈ ba := fun x hx => pa.mem_iff.1 (List.mem_append.2 hx)
  have ib : ∀ x, (x ∈ Jb.flatMap ob ∨ x ∈ Tb.flatMap ob) → x ∈ bb := fun x hx => pb.mem_iff.1 (List.mem_append.2 hx)
  rw [List.flatMap_append, List.flatMap_append]
  exact ⟨List.nodup_append.2 ⟨ma.1, mb.1, fun x hx y hy => hd x (ia x (.inl hx)) y (ib y (.inl hy))⟩, List.nodup_append.2 ⟨ma.2.1, mb.2.1, fun x hx y hy => hd x (ia x (.inr hx)) y (ib y (.inr hy))⟩⟩
/-- The rows of both values, as Apart wants them. -/
theorem rows_two {w wa wb : World} {B Ba Bb M : Nat} {size : Nat} {e : TypeId} {la lb : List Value} (ha : ∀ v ∈ la, ∃ n xs, wa.ownsRow Ba e size v n xs ∧ n ≤ M) (hb : ∀ v ∈ lb, ∃ n xs, wb.ownsRow Bb e size v n xs ∧ n ≤ M) (ka : Below wa.heap.size wa w) (kb : Below wb.heap.size wb w)
    (h1 : B ≤ Ba) (h2 : B ≤ Bb) (hn : ((la ++ lb).flatMap ob).Nodup) : ∃ N X, Rws w B e size (la ++ lb).length (fun k => (la ++ lb).getD k undef) N X ∧ ∀ k, k < (la ++ lb).length → N k ≤ M :=
  rws_of (fun v hv => by
    rcases List.mem_append.1 hv with hv | hv
    · obtain ⟨n, xs, ho, hm⟩ := ha v hv
      exact ⟨n, xs, own_less (own_kept ho ka) h1, hm⟩
    · obtain ⟨n, xs, ho, hm⟩ := hb v hv
      exact ⟨n, xs, own_less (own_kept ho kb) h2, hm⟩) hn
end Js
end Go.Proofs.YtlfeddgpfaigkaaGreatDoor
namespace Go.Proofs.YtlfeddgpfaigkaaGreatDoor
open Go.RowKit Err
namespace Js
/-- A value that is kept: its cells, its tree. -/
structure Kv (w : World) (g : Nat) (S : Nat → Prop) (h : Hd) (k : F) (iv kv : Value) : Prop where
  blk : Blk w g 25 #[.int .i64 h.kind, .int .i64 h.num, .string ⟨h.text.toArray⟩, iv, kv]
  tv : TV encJ w S h k (jcells h iv kv)
  lt : ∀ b, S b → b < w.heap.size
theorem Kv.below {w w' : World} {g : Nat} {S : Nat → Prop} {h : Hd} {k : F} {iv kv : Value} (a : Kv w g S h k iv kv) (hb : Below w.heap.size w w') : Kv w' g S h k iv kv :=
  ⟨a.blk.below hb a.blk.lt, a.tv.kept fun p hp => hb.cell (a.lt _ hp), fun b h => by have := a.lt b h; have := hb.size; omega⟩
theorem same_kv {w : World} {g g' : Nat} {S S' : Nat → Prop} {h : Hd} {k : F} {iv kv iv' kv' : Value} (a : Kv w g S h k iv kv) (b : Kv w g' S' h k iv' kv') :
    Calls Tryz.prog 19 #[.agg #[.int .i64 h.kind, .int .i64 h.num, .string ⟨h.text.toArray⟩, iv, kv], .agg #[.int .i64 h.kind, .int .i64 h.num, .string ⟨h.text.toArray⟩, iv', kv']] w fun x w' => x = .returned (.bool true) ∧ Below w.heap.size w w' :=
  same_any k.sz h k iv kv iv' kv' S S' w (Nat.le_refl _) a.tv b.tv a.lt b.lt
theorem kv_new {w0 w : World} {h : Hd} {k : F} {iv kv : Value} {S : Nat → Prop} (tv : TV encJ w0 S h k (jcells h iv kv)) (lt : ∀ b, S b → b < w0.heap.size) (e : w = w0.alloc (.cells #[.int .i64 h.kind, .int .i64 h.num, .string ⟨h.text.toArray⟩, iv, kv] 25)) :
    Kv w w0.heap.size S h k iv kv ∧ Below w0.heap.size w0 w ∧ w.heap.size = w0.heap.size + 1 := by
  have hb : Below w0.heap.size w0 w := by rw [e]; exact (Below.refl _ _).alloc (Nat.le_refl _) _
  exact ⟨⟨by rw [e]; exact Blk.new _ _ _, tv.kept fun p hp => hb.cell (lt _ hp), fun b h => by have := lt b h; have := hb.size; omega⟩, hb, by rw [e]; simp⟩
def PJ (h : Hd) (k : F) (no pl : Nat) (s : List UInt8) : Prop := ((∃ r, parse s = .ok h k r ∧ no = 0 ∧ pl = 0) ∨ (h = ⟨0, 0, [], []⟩ ∧ k = .nil ∧ ∃ r, parse s = .err no r ∧ pl + r.length = s.length))
/-- Apart, at the lists of two values. -/
theorem apart_two {w wa wb : World} {K B Ba Bb : Nat} {h : Hd} {k : F} {iva kva ivb kvb : Value} {A1 A2 A3 A4 : Option Addr} {c1 c2 c3 c4 : Nat} {ua ub ja jb ta tb : List Value} {ba bb : List Nat} (hz : k.sz ≤ 4194304)
    (a : TP wa Ba h k iva kva A1 c1 A2 c2 ua ja ta ba) (b : TP wb Bb h k ivb kvb A3 c3 A4 c4 ub jb tb bb) (h1 : B ≤ Ba) (h2 : wa.heap.size ≤ Bb) (h3 : B ≤ Bb) (ka : Below wa.heap.size wa w) (kb : Below wb.heap.size wb w)
    (hbk : Bk w K K ((ta ++ [.slice A2 h.keys.length c2]) ++ (tb ++ [.slice A4 h.keys.length c4])) ((.slice A1 k.len c1 :: ja) ++ (.slice A3 k.len c3 :: jb))) (hB : B ≤ w.heap.size) :
    Calls Tryz.prog 21 #[.pointer (some ⟨K, 0, none⟩)] w fun x w' => x = .returned (.bool true) ∧ Below B w w' := by
  obtain ⟨n1, n2⟩ := lists_two a.pm b.pm a.nd b.nd fun x hx y hy => by have := (a.lt x hx).2; have := (b.lt y hy).1; omega
  obtain ⟨Nj, Xj, rj, mj⟩ := rows_two a.jo b.jo ka kb h1 h3 n1
  obtain ⟨Nt, Xt, rt, mt⟩ := rows_two a.ko b.ko ka kb h1 h3 n2
  have l1 := a.jl
  have l2 := a.tl
  have l3 := b.jl
  have l4 := b.tl
  exact apart_any K K B _ _ Nt Nj Xt Xj w hbk (by simp only [List.length_append, List.length_cons]; omega) (by simp only [List.length_append, List.length_cons]; omega) (by simp only [List.length_append, List.length_cons, List.length_nil]; omega) (by simp only [List.length_append, List.length_cons]; omega) rt rj hB (fun k hk => Nat.le_trans (mt k hk) (by omega)) (fun k hk => Nat.le_trans (mj k hk) (by omega))
theorem bt {a b c : World} (h : Below a.heap.size a b) (k : Below b.heap.size b c) : Below a.heap.size a c := h.trans (k.mono h.size)
set_option maxHeartbeats 6400000 in
set_option maxRecDepth 100000 in
theorem jsonParses_any (s other : List UInt8) (hsl : s.length ≤ 9223372036854775807) (w : World) (hst : St w) : Calls Tryz.prog 4 #[.string ⟨s.toArray⟩, .string ⟨other.toArray⟩] w fun x w' => x = .returned (.bool true) ∧ Below w.heap.size w w' := by
  have HST := Lib.hid hst
  have HR := Lib.hid (parseR_any s hsl w)
  have HPA := Lib.hid (fun wx (h : St wx) => parse_any s wx h)
  have HPO := Lib.hid (fun wx (h : St wx) => (parse_any other wx h).mono fun _ _ h => pg_of h)
  clear hst hsl
  go_enter Tryz.func4, Tryz.ntmps4
  go_wp2_with fail
  refine HR.out.mono ?_
  rintro x w1 ⟨h, k, A0, c0, A0', c0', no, pl, rfl, htv0, hb1, hcase⟩
  have HPS : Hid (∀ wx, St wx → Calls Tryz.prog 17 #[.string ⟨s.toArray⟩] wx (PH h k no pl wx)) := Lib.hid (fun wx hx => (HPA.out wx hx).mono fun _ _ hp => (ph_of hcase hp).1)
  have HSZ : Hid (k.sz ≤ 4194304) := Lib.hid (by
    rcases hcase with ⟨r, hp, _, _⟩ | ⟨_, rfl, _⟩
    · obtain ⟨h1, h2, h3, q, h4, h5⟩ := parse_ok hp
      have := val_sz h4
      omega
    · simp [F.sz])
  have HB1 := Lib.hid hb1
  obtain ⟨b1, hb1e⟩ : ∃ b1, b1 = w1.heap.size := ⟨_, rfl⟩
  obtain ⟨w2, hw2⟩ : ∃ w2, w2 = w1.alloc (.cells #[.int .i64 h.kind, .int .i64 h.num, .string ⟨h.text.toArray⟩, .slice A0 k.len c0, .slice A0' h.keys.length c0'] 25) := ⟨_, rfl⟩
  have HKW : Hid (Kv w2 b1 (FrR w w1) h k (.slice A0 k.len c0) (.slice A0' h.keys.length c0') ∧ Below b1 w1 w2 ∧ w2.heap.size = b1 + 1) := Lib.hid (by rw [hb1e]; exact kv_new htv0 (fun b hb => hb.2) hw2)
  have HB2 : Hid (Below w.heap.size w w2) := Lib.hid (HB1.out.trans (HKW.out.2.1.mono (by rw [hb1e]; exact HB1.out.size)))
  clear hb1 htv0 hcase HR HPA
  go_upto_region 2 with (refine wpList_store_row rfl 25 _ _ rfl _ _ rfl rfl 25 _ (heap_alloc_new _ _) (by kernel_rfl) rfl rfl ?_)
  rw [← hw2, ← hb1e]
  clear hw2 hb1e
  have HP2 := Lib.hid (HPS.out w2 (HST.out.below HB2.out))
  go_wp2_with fail
  refine HP2.out.mono ?_
  rintro x w3 ⟨iva, kva, ea, A1, c1, A2, c2, ua, ja, ta, ba, rfl, htpa, heva, hb3⟩
  have HTPA := Lib.hid htpa
  have HEVA := Lib.hid heva
  obtain ⟨b3, hb3e⟩ : ∃ b3, b3 = w3.heap.size := ⟨_, rfl⟩
  obtain ⟨w4, hw4⟩ : ∃ w4, w4 = w3.alloc (.cells #[.int .i64 h.kind, .int .i64 h.num, .string ⟨h.text.toArray⟩, iva, kva] 25) := ⟨_, rfl⟩
  have HKA : Hid (Kv w4 b3 (· ∈ ba) h k iva kva ∧ Below b3 w3 w4 ∧ w4.heap.size = b3 + 1) := Lib.hid (by rw [hb3e]; exact kv_new htpa.tv (fun b hb => (htpa.lt b hb).2) hw4)
  have HE3 : Hid (b3 = w3.heap.size) := Lib.hid hb3e
  have H24 : Hid (Below w2.heap.size w2 w4) := Lib.hid (hb3.trans (HKA.out.2.1.mono (by rw [hb3e]; exact hb3.size)))
  clear hb3 htpa heva HP2
  obtain ⟨rfl, rfl⟩ := And.intro HTPA.out.eiv HTPA.out.ekv
  go_upto_region 3 with (refine wpList_store_row rfl 25 _ _ rfl _ _ rfl rfl 25 _ (heap_alloc_new _ _) (by kernel_rfl) rfl rfl ?_)
  rw [← hw4, ← hb3e]
  clear hw4 hb3e
  have HB4 : Hid (Below w.heap.size w w4) := Lib.hid (HB2.out.trans (H24.out.mono HB2.out.size))
  have HP4 := Lib.hid (HPO.out w4 (HST.out.below HB4.out))
  go_wp2_with fail
  refine HP4.out.mono ?_
  rintro x w5 ⟨h9, k9, i9, v9, bs9, e9, rfl, _, _, hb5, _⟩
  have H45 := Lib.hid hb5
  have HB5 : Hid (Below w.heap.size w w5) := Lib.hid (HB4.out.trans (hb5.mono HB4.out.size))
  clear hb5 HP4 HPO
  have HP5 := Lib.hid (HPS.out w5 (HST.out.below HB5.out))
  go_wp2_with fail
  refine HP5.out.mono ?_
  rintro x w6 ⟨ivb, kvb, eb, A3, c3, A4, c4, ub, jb, tb, bb, rfl, htpb, hevb, hb6⟩
  have HTPB := Lib.hid htpb
  have HEVB := Lib.hid hevb
  obtain ⟨b6, hb6e⟩ : ∃ b6, b6 = w6.heap.size := ⟨_, rfl⟩
  obtain ⟨w7, hw7⟩ : ∃ w7, w7 = w6.alloc (.cells #[.int .i64 h.kind, .int .i64 h.num, .string ⟨h.text.toArray⟩, ivb, kvb] 25) := ⟨_, rfl⟩
  have HKB : Hid (Kv w7 b6 (· ∈ bb) h k ivb kvb ∧ Below b6 w6 w7 ∧ w7.heap.size = b6 + 1) := Lib.hid (by rw [hb6e]; exact kv_new htpb.tv (fun b hb => (htpb.lt b hb).2) hw7)
  have HE6 : Hid (b6 = w6.heap.size) := Lib.hid hb6e
  have H47 : Hid (Below w4.heap.size w4 w7) := Lib.hid (H45.out.trans ((hb6.trans (HKB.out.2.1.mono (by rw [hb6e]; exact hb6.size))).mono H45.out.size))
  clear hb6 htpb hevb HP5
  obtain ⟨rfl, rfl⟩ := And.intro HTPB.out.eiv HTPB.out.ekv
  go_upto_region 5 with (refine wpList_store_row rfl 25 _ _ rfl _ _ rfl rfl 25 _ (heap_alloc_new _ _) (by kernel_rfl) rfl rfl ?_)
  rw [← hw7, ← hb6e]
  clear hw7 hb6e
  have HB7 : Hid (Below w.heap.size w w7) := Lib.hid (HB4.out.trans (H47.out.mono HB4.out.size))
  have HA7 := Lib.hid (at_any HEVA.out w7 (HST.out.below HB7.out))
  go_wp2_with fail
  refine HA7.out.mono ?_
  rintro x w8 ⟨rfl, hb8⟩
  have H78 := Lib.hid hb8
  have HA8 := Lib.hid (at_any HEVB.out w8 (HST.out.below (bt HB7.out hb8)))
  clear hb8 HA7
  have HKA8 := Lib.hid (HKA.out.1.below (bt H47.out H78.out))
  go_wp2_with fail
  refine HA8.out.mono ?_
  rintro x w9 ⟨rfl, hb9⟩
  have H79 : Hid (Below w7.heap.size w7 w9) := Lib.hid (bt H78.out hb9)
  have H49 : Hid (Below w4.heap.size w4 w9) := Lib.hid (bt H47.out H79.out)
  clear hb9 HA8 HKA8
  have HKA9 := Lib.hid (HKA.out.1.below H49.out)
  have HKB9 := Lib.hid (HKB.out.1.below H79.out)
  have HKW9 := Lib.hid (HKW.out.1.below (bt H24.out H49.out))
  have a0 := HKA9.out.blk.cell 0
  have a1 := HKA9.out.blk.cell 1
  have a2 := HKA9.out.blk.cell 2
  have a3 := HKA9.out.blk.cell 3
  have a4 := HKA9.out.blk.cell 4
  have e0 := HKW9.out.blk.cell 0
  have e1 := HKW9.out.blk.cell 1
  have e2 := HKW9.out.blk.cell 2
  have e3 := HKW9.out.blk.cell 3
  have e4 := HKW9.out.blk.cell 4
  have HS9 := Lib.hid (same_kv HKA9.out HKW9.out)
  go_wp2_with fail
  refine HS9.out.mono ?_
  rintro x w10 ⟨rfl, hb10⟩
  have H910 := Lib.hid hb10
  clear hb10 HS9 a0 a1 a2 a3 a4 e0 e1 e2 e3 e4
  have HKB10 := Lib.hid (HKB9.out.below H910.out)
  have HKW10 := Lib.hid (HKW9.out.below H910.out)
  have a0 := HKB10.out.blk.cell 0
  have a1 := HKB10.out.blk.cell 1
  have a2 := HKB10.out.blk.cell 2
  have a3 := HKB10.out.blk.cell 3
  have a4 := HKB10.out.blk.cell 4
  have e0 := HKW10.out.blk.cell 0
  have e1 := HKW10.out.blk.cell 1
  have e2 := HKW10.out.blk.cell 2
  have e3 := HKW10.out.blk.cell 3
  have e4 := HKW10.out.blk.cell 4
  have HS10 := Lib.hid (same_kv HKB10.out HKW10.out)
  go_wp2_with fail
  refine HS10.out.mono ?_
  rintro x w11 ⟨rfl, hb11⟩
  have H911 := Lib.hid (bt H910.out hb11)
  clear hb11 HS10 a0 a1 a2 a3 a4 e0 e1 e2 e3 e4
  have HKA11 := Lib.hid (HKA9.out.below H911.out)
  have HKB11 := Lib.hid (HKB9.out.below H911.out)
  obtain ⟨K, hK⟩ : ∃ K, K = w11.heap.size := ⟨_, rfl⟩
  obtain ⟨w12, hw12⟩ : ∃ w12, w12 = w11.alloc (.cells #[.slice none 0 0, .slice none 0 0, .slice none 0 0, .slice none 0 0, .slice none 0 0, .slice none 0 0, .slice none 0 0, .slice none 0 0, .slice none 0 0, .slice none 0 0, .slice none 0 0, .slice none 0 0, .slice none 0 0, .slice none 0 0, .slice none 0 0, .slice none 0 0, .slice none 0 0, .slice none 0 0, .slice none 0 0, .slice none 0 0, .slice none 0 0, .slice none 0 0, .slice none 0 0, .slice none 0 0] 67) := ⟨_, rfl⟩
  have H1112 : Hid (Below w11.heap.size w11 w12 ∧ w12.heap.size = w11.heap.size + 1) := Lib.hid (by rw [hw12]; exact ⟨(Below.refl _ _).alloc (Nat.le_refl _) _, by simp⟩)
  have HBK12 : Hid (Bk w12 K K [] []) := Lib.hid ⟨.slice none 0 0, .slice none 0 0, by rw [hw12, hK]; exact Blk.new _ _ _, World.ownsRow_nil _ _ _ _, World.ownsRow_nil _ _ _ _⟩
  have HEK : Hid (K = w11.heap.size) := Lib.hid hK
  have H312 : Hid (Below w3.heap.size w3 w12) := Lib.hid (by
    have h34 : Below w3.heap.size w3 w4 := by have := HKA.out.2.1; rwa [HE3.out] at this
    exact bt (bt (bt h34 H49.out) H911.out) H1112.out.1)
  have H611 : Hid (Below w6.heap.size w6 w11) := Lib.hid (by
    have h67 : Below w6.heap.size w6 w7 := by have := HKB.out.2.1; rwa [HE6.out] at this
    exact bt (bt h67 H79.out) H911.out)
  go_upto_region 8 with fail
  rw [← hw12, ← hK]
  clear hw12 hK
  have HKA12 := Lib.hid (HKA11.out.below H1112.out.1)
  have a0 := HKA12.out.blk.cell 0
  have a1 := HKA12.out.blk.cell 1
  have a2 := HKA12.out.blk.cell 2
  have a3 := HKA12.out.blk.cell 3
  have a4 := HKA12.out.blk.cell 4
  have HJ12 := Lib.hid (bjson_any K K k.sz (Nat.le_refl _) h k A1 A2 c1 c2 ua ja ta [] [] (· ∈ ba) w12 (Nat.le_refl _) HTPA.out.len (HTPA.out.rd.kept fun p hp => H312.out.cell (HTPA.out.lt _ hp).2) (HTPA.out.tg.kept fun p hp => H312.out.cell (HTPA.out.lt _ hp).2) (fun b hb => by
    have h1 := (HTPA.out.lt b hb).2; have h2 := H312.out.size; have h3 := H1112.out.2; have h4 := HEK.out
    have h5 := HKA11.out.lt b hb; omega) HBK12.out (by have h3 := H1112.out.2; have h4 := HEK.out; omega) (by have := HTPA.out.jl; have := HSZ.out; simp only [List.length_nil]; omega) (by have := HTPA.out.tl; have := HSZ.out; simp only [List.length_nil]; omega))
  go_wp2_with fail
  refine HJ12.out.mono ?_
  rintro x w13 ⟨rfl, hbk13, hb13⟩
  rw [List.nil_append, List.nil_append] at hbk13
  have HBK13 := Lib.hid hbk13
  have H1113 : Hid (Below w11.heap.size w11 w13) := Lib.hid (H1112.out.1.trans (by have := hb13.below; rwa [HEK.out] at this))
  have H1213 := Lib.hid hb13.below
  clear hbk13 hb13 HJ12 a0 a1 a2 a3 a4
  have HKB13 := Lib.hid (HKB11.out.below H1113.out)
  have a0 := HKB13.out.blk.cell 0
  have a1 := HKB13.out.blk.cell 1
  have a2 := HKB13.out.blk.cell 2
  have a3 := HKB13.out.blk.cell 3
  have a4 := HKB13.out.blk.cell 4
  have H613 : Hid (Below w6.heap.size w6 w13) := Lib.hid (bt H611.out H1113.out)
  have HJ13 := Lib.hid (bjson_any K K k.sz (Nat.le_refl _) h k A3 A4 c3 c4 ub jb tb _ _ (· ∈ bb) w13 (Nat.le_refl _) HTPB.out.len (HTPB.out.rd.kept fun p hp => H613.out.cell (HTPB.out.lt _ hp).2) (HTPB.out.tg.kept fun p hp => H613.out.cell (HTPB.out.lt _ hp).2) (fun b hb => by
    have h4 := HEK.out
    have h5 := HKB11.out.lt b hb; omega) HBK13.out (by have h3 := H1113.out.size; have h4 := HEK.out; omega) (by have := HTPA.out.jl; have := HTPB.out.jl; have := HSZ.out; simp only [List.length_cons]; omega) (by have := HTPA.out.tl; have := HTPB.out.tl; have := HSZ.out; simp only [List.length_append, List.length_cons, List.length_nil]; omega))
  go_wp2_with fail
  refine HJ13.out.mono ?_
  rintro x w14 ⟨rfl, hbk14, hb14⟩
  have HBK14 := Lib.hid hbk14
  have H1114 : Hid (Below w11.heap.size w11 w14) := Lib.hid (H1113.out.trans (by have := hb14.below; rwa [HEK.out] at this))
  clear hbk14 hb14 HJ13 a0 a1 a2 a3 a4
  have H314 : Hid (Below w3.heap.size w3 w14) := Lib.hid (by
    have h34 : Below w3.heap.size w3 w4 := by have := HKA.out.2.1; rwa [HE3.out] at this
    exact bt (bt (bt h34 H49.out) H911.out) H1114.out)
  have H214 : Hid (Below w2.heap.size w2 w14) := Lib.hid (bt (bt (bt H24.out H49.out) H911.out) H1114.out)
  have HAP := Lib.hid (apart_two (B := w2.heap.size) HSZ.out HTPA.out HTPB.out (Nat.le_refl _) (by
    have h1 := HKA.out.2.1.size; have h2 := H45.out.size; have h3 := HKA.out.2.2; have h4 := HE3.out; omega) (by have h1 := H24.out.size; have h2 := H45.out.size; omega) H314.out (bt H611.out H1114.out) HBK14.out H214.out.size)
  go_wp2_with fail
  refine HAP.out.mono ?_
  rintro x w15 ⟨rfl, hb15⟩
  have H215 : Hid (Below w2.heap.size w2 w15) := Lib.hid (H214.out.trans hb15)
  clear hb15 HAP
  have HB15 : Hid (Below w.heap.size w w15) := Lib.hid (bt HB2.out H215.out)
  have HP15 := Lib.hid (HPS.out w15 (HST.out.below HB15.out))
  go_wp2_with fail
  refine HP15.out.mono ?_
  rintro x w16 ⟨ivc, kvc, ec, A5, c5, A6, c6, uc, jc, tc, bc, rfl, htpc, hevc, hb16⟩
  have HEVC := Lib.hid hevc
  obtain ⟨b16, hb16e⟩ : ∃ b16, b16 = w16.heap.size := ⟨_, rfl⟩
  obtain ⟨w17, hw17⟩ : ∃ w17, w17 = w16.alloc (.cells #[.int .i64 h.kind, .int .i64 h.num, .string ⟨h.text.toArray⟩, ivc, kvc] 25) := ⟨_, rfl⟩
  have HKC : Hid (Kv w17 b16 (· ∈ bc) h k ivc kvc ∧ Below b16 w16 w17 ∧ w17.heap.size = b16 + 1) := Lib.hid (by rw [hb16e]; exact kv_new htpc.tv (fun b hb => (htpc.lt b hb).2) hw17)
  have H217 : Hid (Below w2.heap.size w2 w17) := Lib.hid (bt (bt H215.out hb16) (by have := HKC.out.2.1; rwa [hb16e] at this))
  have HKW17 := Lib.hid (HKW.out.1.below H217.out)
  obtain ⟨rfl, rfl⟩ := And.intro htpc.eiv htpc.ekv
  clear hb16 htpc hevc HP15
  go_upto_region 13 with (refine wpList_store_row rfl 25 _ _ rfl _ _ rfl rfl 25 _ (heap_alloc_new _ _) (by kernel_rfl) rfl rfl ?_)
  rw [← hw17, ← hb16e]
  clear hw17 hb16e
  have a0 := HKC.out.1.blk.cell 0
  have a1 := HKC.out.1.blk.cell 1
  have a2 := HKC.out.1.blk.cell 2
  have a3 := HKC.out.1.blk.cell 3
  have a4 := HKC.out.1.blk.cell 4
  have e0 := HKW17.out.blk.cell 0
  have e1 := HKW17.out.blk.cell 1
  have e2 := HKW17.out.blk.cell 2
  have e3 := HKW17.out.blk.cell 3
  have e4 := HKW17.out.blk.cell 4
  have HS17 := Lib.hid (same_kv HKC.out.1 HKW17.out)
  go_wp2_with fail
  refine HS17.out.mono ?_
  rintro x w18 ⟨rfl, hb18⟩
  have HB18 : Hid (Below w.heap.size w w18) := Lib.hid (bt (bt HB2.out H217.out) hb18)
  clear hb18 HS17 a0 a1 a2 a3 a4 e0 e1 e2 e3 e4
  have HA18 := Lib.hid (at_any HEVC.out w18 (HST.out.below HB18.out))
  go_wp2_with fail
  refine HA18.out.mono ?_
  rintro x w19 ⟨rfl, hb19⟩
  have HB19 : Hid (Below w.heap.size w w19) := Lib.hid (bt HB18.out hb19)
  clear hb19 HA18
  have HW19 := Lib.hid (works_any w19 (HST.out.below HB19.out))
  go_wp2_with fail
  refine HW19.out.mono ?_
  rintro x w20 ⟨rfl, hb20⟩
  have HB20 : Hid (Below w.heap.size w w20) := Lib.hid (bt HB19.out hb20)
  clear hb20 HW19
  go_wp2
  go_ret
  exact ⟨rfl, HB20.out⟩
end Js
end Go.Proofs.YtlfeddgpfaigkaaGreatDoor
