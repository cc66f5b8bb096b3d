/-
  Parts of the proof: CfW, CfR.
-/
import Derived.Test.YtjohdaobhonioaaGreatDoorPkFo11
namespace Go.Proofs.YtjohdaobhonioaaGreatDoor
namespace Js.Cf
def WrF (d : Nat) (l : List (B × V)) (P : Prop) : Prop := (∀ p ∈ l, wrong p.1 = none) /\ (P -> wrongsF d (ofL (l.map Prod.snd)) = 0) /\ (¬ P -> wrongsF d (ofL (l.map Prod.snd)) = 6)
theorem wrf_nil (d : Nat) : WrF d [] True := ⟨by simp, fun _ => rfl, fun h => absurd trivial h⟩
theorem wrf_cons {d : Nat} {k : B} {v : V} {l : List (B × V)} {P Q : Prop} (hk : wrong k = none) (h : Wr d v P) (hl : WrF d l Q) : WrF d ((k, v) :: l) (P /\ Q) := by
 have e : wrongsF d (ofL (((k, v) :: l).map Prod.snd)) = if wr d v ≠ 0 then wr d v else wrongsF d (ofL (l.map Prod.snd)) := wrongsF_cons d v.1 v.2 _
 refine ⟨fun p hp => ?_, fun ⟨hp, hq⟩ => ?_, fun hn => ?_⟩
 . rcases List.mem_cons.1 hp with rfl | hp
   . exact hk
   . exact hl.1 p hp
 . rw [e, if_neg (by rw [h.1 hp]; simp)]; exact hl.2.1 hq
 . rw [e]
   by_cases hp : P
   . rw [if_neg (by rw [h.1 hp]; simp)]; exact hl.2.2 fun hq => hn ⟨hp, hq⟩
   . have := h.2 hp
     rw [if_pos (by rw [this]; simp)]; exact this
theorem wr_M {d : Nat} (hd : d ≤ 32) {l : List (B × V)} {P : Prop} (hn : (l.map Prod.fst).Nodup) (h : WrF (d + 1) l P) : Wr d (tO l) P := by
 have ho : own d ⟨6, 0, [], l.map Prod.fst⟩ (ofL (l.map Prod.snd)).len = 0 := by
  unfold own
  rw [if_neg (by omega), if_neg (by rw [ofL_len]; simp), if_neg (by simp), if_neg (by simp), dupL_nodup hn, if_neg ?_]
  . simp
  . rintro ⟨x, hx, hw⟩
    obtain ⟨y, hy, rfl⟩ := List.mem_map.1 hx
    exact hw (h.1 y hy)
 have e : wr d (tO l) = wrongsF (d + 1) (ofL (l.map Prod.snd)) := by
  show wrongs d ⟨6, 0, [], l.map Prod.fst⟩ (ofL (l.map Prod.snd)) = _
  unfold wrongs
  rw [ho]; rfl
 exact ⟨fun hp => by rw [e]; exact h.2.1 hp, fun hp => by rw [e]; exact h.2.2 hp⟩
theorem letter_low {c : UInt8} (h : (letterB c || digitB c) = true) : c.toNat < 128 /\ c ≠ 61 := by
 have key : ∀ k : Fin 256, (letterB (UInt8.ofNat k.val) || digitB (UInt8.ofNat k.val)) = true -> (UInt8.ofNat k.val).toNat < 128 /\ UInt8.ofNat k.val ≠ 61 := by decide +kernel
 have e : UInt8.ofNat c.toNat = c := by simp
 have := key ⟨c.toNat, by have := c.toNat_lt; omega⟩
 simp only [e] at this
 exact this h
theorem var_low {s : B} (h : varB s = true) : ∀ c ∈ s, c.toNat < 128 /\ c ≠ 61 := by
 cases s with
 | nil => simp
 | cons a r =>
  simp only [varB, Bool.and_eq_true, List.all_eq_true] at h
  intro c hc
  rcases List.mem_cons.1 hc with rfl | hc
  . exact letter_low (by rw [h.1]; rfl)
  . exact letter_low (h.2 c hc)
theorem var_ne {s : B} (h : varB s = true) : 1 ≤ s.length := by
 cases s with
 | nil => cases h
 | cons _ _ => simp
theorem dig_low (d : B) : wrong (Plain.digText d) = none := by
 apply wrong_low
 unfold Plain.digText Plain.hexAll
 intro c hc
 rcases List.mem_append.1 hc with hc | hc
 . exact (show ∀ c ∈ Plain.shaHead, c.toNat < 128 by decide) c hc
 . obtain ⟨x, _, hx⟩ := List.mem_flatMap.1 hc
   have hb := x.toNat_lt
   have key : ∀ n, n < 16 -> (Plain.hexc n).toNat < 128 := fun n hn => (show ∀ n : Fin 16, (Plain.hexc n.val).toNat < 128 by decide) ⟨n, hn⟩
   simp only [Plain.hex2, List.mem_cons, List.not_mem_nil, or_false] at hx
   rcases hx with rfl | rfl
   . exact key _ (by omega)
   . exact key _ (by omega)
theorem w0_zero {i : Img} (h : w0 i = 0) : ¬ (1024 < i.diffs.length ∨ 1024 < i.past.length ∨ 64 < i.cfg.cmd.length ∨ 64 < i.cfg.entry.length ∨ 262144 < sizeT (textsI i)) /\ (∀ p ∈ i.cfg.env, varB p.1 = true) /\ dupL (i.cfg.env.map Prod.fst) = false /\
   (∀ p ∈ i.cfg.ports, portB p = true) /\ risesL i.cfg.ports = true /\ risesL (i.cfg.labels.map Prod.fst) = true /\ (i.cfg.labels.map Prod.fst).head? ≠ some [] /\ i.cfg.dir = 47 :: cleanB i.cfg.dir := by
 unfold w0 at h
 split at h
 . cases h
 . rename_i h1
   split at h
   . cases h
   . rename_i h2
     split at h
     . cases h
     . rename_i h3
       split at h
       . cases h
       . rename_i h4
         split at h
         . cases h
         . rename_i h5
           rw [Bool.not_eq_false, List.all_eq_true] at h2 h4
           simp only [not_or, Decidable.not_not, Bool.not_eq_false] at h5
           exact ⟨h1, h2, by simpa using h3, h4, h5.1, h5.2.1, h5.2.2.1, h5.2.2.2⟩
theorem qc_len (c : UInt8) : (qc c).length ≤ 6 := by unfold qc; split <;> (try split) <;> simp
theorem flat_len (s : B) : (s.flatMap qc).length ≤ 6 * s.length := by
 induction s with
 | nil => simp
 | cons c r ih => have := qc_len c; simp only [List.flatMap_cons, List.length_append, List.length_cons]; omega
theorem quoted_len (s : B) : (quoted s).length ≤ 6 * s.length + 2 := by
 have := flat_len s
 unfold quoted; simp only [List.length_cons, List.length_append, List.length_nil]; omega
theorem commas_len : ∀ l : List B, (commas l).length ≤ sizeT l + l.length
 | [] => by simp [commas]
 | [x] => by simp [commas, sizeT]
 | x :: y :: r => by
  have := commas_len (y :: r)
  simp only [commas, sizeT, List.map_cons, List.sum_cons, List.length_append, List.length_cons] at this ⊢
  omega
theorem sum_le {α : Type} {f g : α -> Nat} : ∀ {l : List α}, (∀ x ∈ l, f x ≤ g x) -> (l.map f).sum ≤ (l.map g).sum
 | [], _ => by simp
 | x :: r, h => by
  have h1 := h x (by simp)
  have h2 := sum_le (l := r) (fun y hy => h y (by simp [hy]))
  simp only [List.map_cons, List.sum_cons]; omega
theorem commas_map_len {α : Type} {f : α -> B} {g : α -> Nat} {l : List α} (h : ∀ x ∈ l, (f x).length + 1 ≤ g x) : (commas (l.map f)).length ≤ (l.map g).sum := by
 have h1 := commas_len (l.map f)
 have h2 : sizeT (l.map f) + (l.map f).length = (l.map fun x => (f x).length + 1).sum := by
  clear h h1
  induction l with
  | nil => rfl
  | cons x r ih => simp only [sizeT, List.map_cons, List.sum_cons, List.length_cons] at ih ⊢; omega
 have h3 := sum_le h
 omega
theorem sum_mul (c : Nat) {α : Type} (f : α -> Nat) : ∀ l : List α, (l.map fun x => c * f x).sum = c * (l.map f).sum
 | [] => by simp
 | x :: r => by simp only [List.map_cons, List.sum_cons, sum_mul c f r]; rw [Nat.mul_add]
theorem sum_mul_add (c e : Nat) {α : Type} (f : α -> Nat) : ∀ l : List α, (l.map fun x => c * f x + e).sum = c * (l.map f).sum + e * l.length
 | [] => by simp
 | x :: r => by simp only [List.map_cons, List.sum_cons, sum_mul_add c e f r, List.length_cons]; rw [Nat.mul_add, Nat.mul_add]; omega
theorem listB_len (l : List B) : (listB l).length ≤ 6 * sizeT l + 3 * l.length + 2 := by
 have h := commas_map_len (f := quoted) (g := fun s : B => 6 * s.length + 3) (l := l) (fun s _ => by have := quoted_len s; omega)
 rw [sum_mul_add] at h
 unfold listB sizeT
 simp only [List.length_cons, List.length_append, List.length_nil]; omega
theorem sizeT_flatP (l : List (B × B)) : sizeT (flatP l) = (l.map fun p => p.1.length + p.2.length).sum := by
 unfold sizeT flatP
 induction l with
 | nil => rfl
 | cons p r ih => simp only [List.flatMap_cons, List.map_append, List.sum_append, List.map_cons, List.sum_cons, List.map_nil, List.sum_nil, ih]; omega
theorem quoted_env (p : B × B) : (quoted (envB p)).length ≤ 6 * (p.1.length + p.2.length) + 3 := by
 have h1 := flat_len p.1
 have h2 := flat_len p.2
 unfold quoted envB
 simp only [List.flatMap_append, List.flatMap_cons, List.length_cons, List.length_append, List.length_nil]
 have : (qc 61).length = 1 := by decide
 omega
theorem member_len (p : B × B) : (member p).length ≤ 6 * p.1.length + 3 + p.2.length := by
 have := quoted_len p.1
 unfold member; simp only [List.length_append, List.length_cons]; omega
theorem opt_len {C : Prop} [Decidable C] (k v : B) (l : List (B × B)) : sizeT (((if C then [] else [(k, v)]) ++ l).map member) + ((if C then [] else [(k, v)]) ++ l).length ≤ 6 * k.length + 4 + v.length + (sizeT (l.map member) + l.length) := by
 have := member_len (k, v)
 by_cases c : C
 . rw [if_pos c]; simp
 . rw [if_neg c]
   simp only [sizeT, List.cons_append, List.nil_append, List.map_cons, List.sum_cons, List.length_cons] at this ⊢
   omega
theorem rise_lab : ∀ {l : List (B × B)}, risesL (l.map Prod.fst) = true -> (l.map Prod.fst).head? ≠ some [] -> ∀ p ∈ l, 1 ≤ p.1.length
 | [], _, _ => by simp
 | p :: r, h, h0 => by
  have hs := srt_of_rises Prod.fst (fun _ => ()) h
  have hp := List.pairwise_cons.1 hs
  intro q hq
  rcases List.mem_cons.1 hq with rfl | hq
  . cases he : q.1 with
    | nil => simp [he] at h0
    | cons _ _ => simp
  . have := hp.1 (q.1, ()) (List.mem_map.2 ⟨q, hq, rfl⟩)
    cases he : q.1 with
    | nil =>
     simp only at this
     rw [he] at this
     cases hx : p.1 <;> rw [hx] at this <;> cases this
    | cons _ _ => simp
theorem port_ne {s : B} (h : portB s = true) : 1 ≤ s.length := by
 cases s with
 | nil => revert h; decide
 | cons _ _ => simp
theorem objB_len (l : List (B × B)) : (objB l).length ≤ sizeT (l.map member) + l.length + 2 := by
 have := commas_len (l.map member)
 unfold objB
 simp only [List.length_cons, List.length_append, List.length_nil, List.length_map] at this ⊢; omega
theorem cfgW_len {i : Img} (h : w0 i = 0) : (objB (cfgW i.cfg)).length ≤ 12 * (sizeT i.cfg.cmd + sizeT i.cfg.entry + sizeT (flatP i.cfg.env) + sizeT i.cfg.ports + sizeT (flatP i.cfg.labels) + i.cfg.user.length + i.cfg.dir.length) + 1000 := by
 obtain ⟨hc, hv, _, hp, _, hl, hl0, _⟩ := w0_zero h
 have c1 : (listB i.cfg.cmd).length ≤ 6 * sizeT i.cfg.cmd + 194 := by have := listB_len i.cfg.cmd; omega
 have c2 : (listB i.cfg.entry).length ≤ 6 * sizeT i.cfg.entry + 194 := by have := listB_len i.cfg.entry; omega
 have c3 : (listB (i.cfg.env.map envB)).length ≤ 10 * sizeT (flatP i.cfg.env) + 2 := by
  have := commas_map_len (f := quoted ∘ envB) (g := fun p : B × B => 10 * (p.1.length + p.2.length)) (l := i.cfg.env) (fun p hp => by
   have h1 := quoted_env p
   have h2 := var_ne (hv p hp)
   simp only [Function.comp]; omega)
  rw [sum_mul, <- sizeT_flatP] at this
  unfold listB
  rw [List.map_map]
  simp only [List.length_cons, List.length_append, List.length_nil]; omega
 have c4 : (objB (i.cfg.ports.map fun p => (p, [123, 125]))).length ≤ 12 * sizeT i.cfg.ports + 2 := by
  have := commas_map_len (f := member ∘ fun p => (p, [123, 125])) (g := fun p : B => 12 * p.length) (l := i.cfg.ports) (fun p hq => by
   have h1 := member_len (p, [123, 125])
   have h2 := port_ne (hp p hq)
   simp only [Function.comp, List.length_cons, List.length_nil] at h1 ⊢; omega)
  rw [sum_mul] at this
  unfold objB
  rw [List.map_map]
  have e : (i.cfg.ports.map fun p => p.length).sum = sizeT i.cfg.ports := rfl
  rw [e] at this
  simp only [List.length_cons, List.length_append, List.length_nil]
  generalize (commas (List.map _ i.cfg.ports)).length = z at this ⊢
  omega
 have c5 : (objB (i.cfg.labels.map fun p => (p.1, quoted p.2))).length ≤ 12 * sizeT (flatP i.cfg.labels) + 2 := by
  have := commas_map_len (f := member ∘ fun p : B × B => (p.1, quoted p.2)) (g := fun p : B × B => 12 * (p.1.length + p.2.length)) (l := i.cfg.labels) (fun p hq => by
   have h1 := member_len (p.1, quoted p.2)
   have h2 := quoted_len p.2
   have h3 := rise_lab hl hl0 p hq
   simp only [Function.comp] at h1 ⊢; omega)
  rw [sum_mul, <- sizeT_flatP] at this
  unfold objB
  rw [List.map_map]
  simp only [List.length_cons, List.length_append, List.length_nil]; omega
 have c6 := quoted_len i.cfg.user
 have c7 := quoted_len i.cfg.dir
 have hb := objB_len (cfgW i.cfg)
 unfold cfgW at hb
 have m1 := opt_len (C := i.cfg.cmd = []) kCmd (listB i.cfg.cmd)
 have m2 := opt_len (C := i.cfg.entry = []) kEntry (listB i.cfg.entry)
 have m3 := opt_len (C := i.cfg.env = []) kEnv (listB (i.cfg.env.map envB))
 have m4 := opt_len (C := i.cfg.ports = []) kPorts (objB (i.cfg.ports.map fun p => (p, [123, 125])))
 have m5 := opt_len (C := i.cfg.labels = []) kLabels (objB (i.cfg.labels.map fun p => (p.1, quoted p.2)))
 have m6 := opt_len (C := i.cfg.user = []) kUser (quoted i.cfg.user) [(kDir, quoted i.cfg.dir)]
 have m7 : sizeT ([(kDir, quoted i.cfg.dir)].map member) + [(kDir, quoted i.cfg.dir)].length ≤ 6 * i.cfg.dir.length + 66 := by
  have := member_len (kDir, quoted i.cfg.dir)
  simp only [sizeT, List.map_cons, List.map_nil, List.sum_cons, List.sum_nil, List.length_cons, List.length_nil, show kDir.length = 10 from rfl] at this ⊢
  omega
 have m5 := m5 ((if i.cfg.user = [] then [] else [(kUser, quoted i.cfg.user)]) ++ [(kDir, quoted i.cfg.dir)])
 have m4 := Nat.le_trans (m4 _) (Nat.add_le_add_left m5 _)
 have m3 := Nat.le_trans (m3 _) (Nat.add_le_add_left m4 _)
 have m2 := Nat.le_trans (m2 _) (Nat.add_le_add_left m3 _)
 have m1 := Nat.le_trans (m1 _) (Nat.add_le_add_left m2 _)
 simp only [show kCmd.length = 3 from rfl, show kEntry.length = 10 from rfl, show kEnv.length = 3 from rfl, show kPorts.length = 12 from rfl, show kLabels.length = 6 from rfl, show kUser.length = 4 from rfl] at m1 m6
 unfold cfgW
 omega
theorem pastW_len (p : B × Bool) : (pastW p).length ≤ 6 * p.1.length + 39 := by
 obtain ⟨t, e⟩ := p
 have h1 := quoted_len t
 have e1 : (member (kBy, quoted t)).length = 13 + (quoted t).length := by
   show (quoted kBy ++ 58 :: quoted t).length = _
   rw [List.length_append, List.length_cons, show (quoted kBy).length = 12 from rfl]; omega
 have e2 : (member (kEmpty, [116, 114, 117, 101])).length = 18 := by decide
 cases e
 . have h := objB_len [(kBy, quoted t)]
   simp only [sizeT, List.map_cons, List.map_nil, List.sum_cons, List.sum_nil, List.length_cons, List.length_nil, e1] at h
   show (objB [(kBy, quoted t)]).length ≤ 6 * t.length + 39
   omega
 . have h := objB_len [(kBy, quoted t), (kEmpty, [116, 114, 117, 101])]
   simp only [sizeT, List.map_cons, List.map_nil, List.sum_cons, List.sum_nil, List.length_cons, List.length_nil, e1, e2] at h
   show (objB [(kBy, quoted t), (kEmpty, [116, 114, 117, 101])]).length ≤ 6 * t.length + 39
   omega
theorem sizeT_app (a b : List B) : sizeT (a ++ b) = sizeT a + sizeT b := by unfold sizeT; rw [List.map_append, List.sum_append]
theorem imgB_len {i : Img} (h : w0 i = 0) (hd : ∀ d ∈ i.diffs, d.length = 32) : (imgB i).length ≤ 4194304 := by
 obtain ⟨hc, _⟩ := w0_zero h
 have h1 := cfgW_len h
 have h2 : (91 :: (commas (i.past.map pastW) ++ [93])).length ≤ 6 * sizeT (i.past.map Prod.fst) + 40 * i.past.length + 2 := by
  have := commas_map_len (f := pastW) (g := fun p : B × Bool => 6 * p.1.length + 40) (l := i.past) (fun p _ => by have := pastW_len p; omega)
  rw [sum_mul_add] at this
  unfold sizeT
  rw [List.map_map]
  simp only [List.length_cons, List.length_append, List.length_nil]
  have e : (i.past.map (List.length ∘ Prod.fst)).sum = (i.past.map fun p => p.1.length).sum := rfl
  omega
 have h3 : (listB (i.diffs.map Plain.digText)).length ≤ 429 * i.diffs.length + 2 := by
  have := commas_map_len (f := quoted ∘ Plain.digText) (g := fun _ : B => 0 * 0 + 429) (l := i.diffs) (fun d hd' => by
   have := quoted_len (Plain.digText d)
   rw [Plain.digText_length, hd d hd'] at this
   simp only [Function.comp]; omega)
  rw [sum_mul_add (f := fun _ : B => 0)] at this
  unfold listB
  rw [List.map_map]
  simp only [List.length_cons, List.length_append, List.length_nil]; omega
 have hs : sizeT (textsI i) = i.cfg.dir.length + i.cfg.user.length + (sizeT i.cfg.ports + (sizeT i.cfg.cmd + (sizeT i.cfg.entry + (sizeT (flatP i.cfg.env) + (sizeT (flatP i.cfg.labels) + sizeT (i.past.map Prod.fst)))))) := by
  unfold textsI
  simp only [sizeT_app]
  simp [sizeT]
 have e1 := objB_len [(kArch, quoted vArch), (kCfg, objB (cfgW i.cfg)), (kHist, 91 :: (commas (i.past.map pastW) ++ [93])), (kOs, quoted vOs), (kRoot, rootW i)]
 have e2 := objB_len [(kDiffs, listB (i.diffs.map Plain.digText)), (kType, quoted vType)]
 have a1 := member_len (kArch, quoted vArch)
 have a2 := member_len (kCfg, objB (cfgW i.cfg))
 have a3 := member_len (kHist, 91 :: (commas (i.past.map pastW) ++ [93]))
 have a4 := member_len (kOs, quoted vOs)
 have a5 := member_len (kRoot, rootW i)
 have a6 := member_len (kDiffs, listB (i.diffs.map Plain.digText))
 have a7 := member_len (kType, quoted vType)
 simp only [show (quoted vArch).length = 7 from rfl, show (quoted vOs).length = 7 from rfl, show (quoted vType).length = 8 from rfl, show kArch.length = 12 from rfl, show kCfg.length = 6 from rfl, show kHist.length = 7 from rfl, show kOs.length = 2 from rfl, show kRoot.length = 6 from rfl, show kDiffs.length = 8 from rfl, show kType.length = 4 from rfl] at a1 a2 a3 a4 a5 a6 a7
 simp only [sizeT, List.map_cons, List.map_nil, List.sum_cons, List.sum_nil, List.length_cons, List.length_nil] at e1 e2
 have e3 : (rootW i).length ≤ 429 * i.diffs.length + 150 := by unfold rootW; omega
 unfold imgB
 simp only [List.length_cons] at h2 a3
 omega
end Js.Cf
end Go.Proofs.YtjohdaobhonioaaGreatDoor
namespace Go.Proofs.YtjohdaobhonioaaGreatDoor
namespace Js.Cf
def getP (v : V) (key : B) : Option V := if v.1.kind = 6 then (placeL v.1.keys key).bind fun j => (toL v.2)[j]? else none
def atJ (v : V) (key : B) : V := (getP v key).getD tZ
def textsJ (v : V) : List B := (toL v.2).map fun p => p.1.text
def cutE (s : B) : B × B := (s.takeWhile (· != 61), (s.dropWhile (· != 61)).drop 1)
def exCfg (c : V) : Cfg := ⟨(textsJ (atJ c kEnv)).map cutE, (atJ c kDir).1.text, (atJ c kUser).1.text, (atJ c kPorts).1.keys, (atJ c kLabels).1.keys.zip (textsJ (atJ c kLabels)), textsJ (atJ c kCmd), textsJ (atJ c kEntry)⟩
def exPast (x : V) : B × Bool := ((atJ x kBy).1.text, decide ((atJ x kEmpty).1.kind = 2))
def digs : List B -> Option (List B)
 | [] => some []
 | t :: r => match Plain.digParse t with
  | none => none
  | some d => match digs r with
   | none => none
   | some l => some (d :: l)
def exImg (v : V) : Option Img := match digs (textsJ (atJ (atJ v kRoot) kDiffs)) with
 | none => none
 | some ds => some ⟨exCfg (atJ v kCfg), (toL (atJ v kHist).2).map exPast, ds⟩
def progI (s : B) : Option Img := match parse s with
 | .err _ _ => none
 | .ok h k _ => match exImg (h, k) with
  | none => none
  | some i => if imgP i = (s, 0) then some i else none
theorem at_nil (key : B) : atJ (tO []) key = tZ := rfl
theorem at_cons (k : B) (v : V) (l : List (B × V)) (key : B) : atJ (tO ((k, v) :: l)) key = if k = key then v else atJ (tO l) key := by
 unfold atJ getP placeL tO
 simp only [if_true, List.map_cons, toL_ofL, List.idxOf?_cons]
 by_cases h : k = key
 . subst h; simp
 . have : (k == key) = false := by simpa using h
   rw [this, if_neg h]
   simp only [Bool.false_eq_true, if_false]
   cases (l.map Prod.fst).idxOf? key <;> simp
theorem at_opt {C : Prop} [Decidable C] (k : B) (v : V) (l : List (B × V)) (key : B) : atJ (tO ((if C then [] else [(k, v)]) ++ l)) key = if k = key then (if C then atJ (tO l) key else v) else atJ (tO l) key := by
 by_cases c : C
 . rw [if_pos c, if_pos c]; simp
 . rw [if_neg c, if_neg c, List.singleton_append, at_cons]
theorem at_ne {C : Prop} [Decidable C] {k key : B} {v : V} {l : List (B × V)} (h : k ≠ key) : atJ (tO ((if C then [] else [(k, v)]) ++ l)) key = atJ (tO l) key := by rw [at_opt, if_neg h]
theorem at_eq {C : Prop} [Decidable C] {k : B} {v : V} {l : List (B × V)} : atJ (tO ((if C then [] else [(k, v)]) ++ l)) k = if C then atJ (tO l) k else v := by rw [at_opt, if_pos rfl]
theorem at_end {k key : B} {v : V} (h : k ≠ key) : atJ (tO [(k, v)]) key = tZ := by rw [at_cons, if_neg h, at_nil]
theorem texts_T (l : List B) : textsJ (tTexts l) = l := by
 unfold textsJ tTexts tL
 rw [toL_ofL, List.map_map]
 exact List.map_id' l
theorem cut_env {k v : B} (h : ∀ c ∈ k, c ≠ 61) : cutE (k ++ 61 :: v) = (k, v) := by
 unfold cutE
 have h1 : (k ++ 61 :: v).takeWhile (· != 61) = k := by
  rw [List.takeWhile_append_of_pos (fun c hc => by simpa using h c hc)]; simp
 have h2 : (k ++ 61 :: v).dropWhile (· != 61) = 61 :: v := by
  rw [List.dropWhile_append_of_pos (fun c hc => by simpa using h c hc)]; simp
 rw [h1, h2]; rfl
theorem zip_unzip {α β : Type} (l : List (α × β)) : (l.map Prod.fst).zip (l.map Prod.snd) = l := by
 induction l with
 | nil => rfl
 | cons p r ih => simp [ih]
theorem ex_cfg {c : Cfg} (hv : ∀ p ∈ c.env, varB p.1 = true) : exCfg (cfgT c) = c := by
 have henv : (c.env.map envB).map cutE = c.env := by
   rw [List.map_map]
   calc c.env.map (cutE ∘ envB) = c.env.map id := List.map_congr_left fun p hp => cut_env fun x hx => (var_low (hv p hp) x hx).2
     _ = c.env := List.map_id c.env
 have e1 : atJ (cfgT c) kCmd = if c.cmd = [] then tZ else tTexts c.cmd := by
   unfold cfgT cfgM
   rw [at_eq, at_ne (by decide), at_ne (by decide), at_ne (by decide), at_ne (by decide), at_ne (by decide), at_end (by decide)]
 have e2 : atJ (cfgT c) kEntry = if c.entry = [] then tZ else tTexts c.entry := by
   unfold cfgT cfgM
   rw [at_ne (by decide), at_eq, at_ne (by decide), at_ne (by decide), at_ne (by decide), at_ne (by decide), at_end (by decide)]
 have e3 : atJ (cfgT c) kEnv = if c.env = [] then tZ else tTexts (c.env.map envB) := by
   unfold cfgT cfgM
   rw [at_ne (by decide), at_ne (by decide), at_eq, at_ne (by decide), at_ne (by decide), at_ne (by decide), at_end (by decide)]
 have e4 : atJ (cfgT c) kPorts = if c.ports = [] then tZ else tO (c.ports.map fun p => (p, tO [])) := by
   unfold cfgT cfgM
   rw [at_ne (by decide), at_ne (by decide), at_ne (by decide), at_eq, at_ne (by decide), at_ne (by decide), at_end (by decide)]
 have e5 : atJ (cfgT c) kLabels = if c.labels = [] then tZ else tO (c.labels.map fun p => (p.1, tT p.2)) := by
   unfold cfgT cfgM
   rw [at_ne (by decide), at_ne (by decide), at_ne (by decide), at_ne (by decide), at_eq, at_ne (by decide), at_end (by decide)]
 have e6 : atJ (cfgT c) kUser = if c.user = [] then tZ else tT c.user := by
   unfold cfgT cfgM
   rw [at_ne (by decide), at_ne (by decide), at_ne (by decide), at_ne (by decide), at_ne (by decide), at_eq, at_end (by decide)]
 have e7 : atJ (cfgT c) kDir = tT c.dir := by
   unfold cfgT cfgM
   rw [at_ne (by decide), at_ne (by decide), at_ne (by decide), at_ne (by decide), at_ne (by decide), at_ne (by decide), at_cons, if_pos rfl]
 unfold exCfg
 rw [e1, e2, e3, e4, e5, e6, e7]
 obtain ⟨env, dir, user, ports, labels, cmd, entry⟩ := c
 simp only at henv ⊢
 congr 1
 . split
   . rename_i h; rw [h]; rfl
   . rw [texts_T, henv]
 . split
   . rename_i h; rw [h]; rfl
   . rfl
 . split
   . rename_i h; rw [h]; rfl
   . show (ports.map fun p => (p, tO [])).map Prod.fst = ports
     rw [List.map_map]; exact List.map_id' ports
 . split
   . rename_i h; rw [h]; rfl
   . show ((labels.map fun p => (p.1, tT p.2)).map Prod.fst).zip ((toL (ofL ((labels.map fun p => (p.1, tT p.2)).map Prod.snd))).map fun p => p.1.text) = labels
     rw [toL_ofL, List.map_map, List.map_map, List.map_map]
     exact zip_unzip labels
 . split
   . rename_i h; rw [h]; rfl
   . exact texts_T _
 . split
   . rename_i h; rw [h]; rfl
   . exact texts_T _
theorem digs_text : ∀ {l : List B}, (∀ d ∈ l, d.length = 32) -> digs (l.map Plain.digText) = some l
 | [], _ => rfl
 | d :: r, h => by
  rw [List.map_cons, digs, Plain.digParse_digText d (h d (by simp)), digs_text (fun x hx => h x (by simp [hx]))]
theorem digs_len : ∀ {l ds : List B}, digs l = some ds -> ∀ d ∈ ds, d.length = 32
 | [], ds, h => by injection h with h; subst h; simp
 | t :: r, ds, h => by
  rw [digs] at h
  cases hp : Plain.digParse t with
  | none => rw [hp] at h; cases h
  | some d =>
   rw [hp] at h
   simp only at h
   cases hr : digs r with
   | none => rw [hr] at h; cases h
   | some l =>
    rw [hr] at h
    injection h with h
    subst h
    intro x hx
    rcases List.mem_cons.1 hx with rfl | hx
    . unfold Plain.digParse at hp
      split at hp
      . injection hp with hp; rw [<- hp]; exact Plain.accL_length _ _
      . cases hp
    . exact digs_len hr x hx
theorem nrm_Texts (l : List B) : nrm (tTexts l) = tTexts l := by
 unfold tTexts
 rw [nrm_L, List.map_map]
 rfl
theorem nrm_srt {l : List (B × V)} (h : Srt (l.map fun p => (p.1, nrm p.2))) : nrm (tO l) = tO (l.map fun p => (p.1, nrm p.2)) := by
 rw [nrm_O, sortK_id h]
theorem nrm_cfg {c : Cfg} (hp : risesL c.ports = true) (hl : risesL (c.labels.map Prod.fst) = true) : nrm (cfgT c) = cfgT c := by
 unfold cfgT
 rw [nrm_srt (cfgM_srt nrm c)]
 have e1 : nrm (tO (c.ports.map fun p => (p, tO []))) = tO (c.ports.map fun p => (p, tO [])) := by
  rw [nrm_srt (by rw [List.map_map]; exact srt_of_rises (fun x : B => x) _ (by simpa using hp)), List.map_map]; rfl
 have e2 : nrm (tO (c.labels.map fun p => (p.1, tT p.2))) = tO (c.labels.map fun p => (p.1, tT p.2)) := by
  rw [nrm_srt (by rw [List.map_map]; exact srt_of_rises Prod.fst _ hl), List.map_map]; rfl
 unfold cfgM
 simp only [List.map_append, List.map_cons, List.map_nil, apply_ite (List.map (fun p : B × V => (p.1, nrm p.2))), nrm_Texts, e1, e2, nrm_T]
theorem nrm_past (p : B × Bool) : nrm (pastT p) = pastT p := by
 unfold pastT
 cases p.2
 . rfl
 . rw [nrm_O]; rfl
theorem nrm_root (i : Img) : nrm (rootT i) = tO [(kDiffs, tTexts (i.diffs.map Plain.digText)), (kType, tT vType)] := by
 unfold rootT
 rw [nrm_O]
 show tO [(kDiffs, nrm (tTexts (i.diffs.map Plain.digText))), (kType, tT vType)] = _
 rw [nrm_Texts]
theorem nrm_img {i : Img} (hp : risesL i.cfg.ports = true) (hl : risesL (i.cfg.labels.map Prod.fst) = true) :
  nrm (imgT i) = tO [(kArch, tT vArch), (kCfg, cfgT i.cfg), (kHist, tL (i.past.map pastT)), (kOs, tT vOs), (kRoot, tO [(kDiffs, tTexts (i.diffs.map Plain.digText)), (kType, tT vType)])] := by
 have e1 := nrm_cfg hp hl
 have e2 : nrm (tL (i.past.map pastT)) = tL (i.past.map pastT) := by
  rw [nrm_L, List.map_map]
  congr 1
  exact List.map_congr_left fun p _ => nrm_past p
 have e3 := nrm_root i
 rw [<- e1, <- e3]
 conv => rhs; rw [<- e2]
 unfold imgT
 rw [nrm_O]
 rfl
theorem ex_past (p : B × Bool) : exPast (pastT p) = p := by
 obtain ⟨a, b⟩ := p
 cases b <;> rfl
theorem ex_img {i : Img} (h : w0 i = 0) (hd : ∀ d ∈ i.diffs, d.length = 32) : exImg (nrm (imgT i)) = some i := by
 obtain ⟨_, hv, _, _, hp, hl, _, _⟩ := w0_zero h
 rw [nrm_img hp hl]
 have e1 : ∀ (a b c d e : V), atJ (tO [(kArch, a), (kCfg, b), (kHist, c), (kOs, d), (kRoot, e)]) kRoot = e := fun _ _ _ _ _ => rfl
 have e2 : ∀ (a b c d e : V), atJ (tO [(kArch, a), (kCfg, b), (kHist, c), (kOs, d), (kRoot, e)]) kCfg = b := fun _ _ _ _ _ => rfl
 have e3 : ∀ (a b c d e : V), atJ (tO [(kArch, a), (kCfg, b), (kHist, c), (kOs, d), (kRoot, e)]) kHist = c := fun _ _ _ _ _ => rfl
 have e4 : ∀ (a b : V), atJ (tO [(kDiffs, a), (kType, b)]) kDiffs = a := fun _ _ => rfl
 unfold exImg
 rw [e1, e2, e3, e4, texts_T, digs_text hd, ex_cfg hv]
 have e5 : (toL (tL (i.past.map pastT)).2).map exPast = i.past := by
  show (toL (ofL (i.past.map pastT))).map exPast = i.past
  rw [toL_ofL, List.map_map]
  calc i.past.map (exPast ∘ pastT) = i.past.map id := List.map_congr_left fun p _ => ex_past p
   _ = i.past := List.map_id _
 simp only [e5]
theorem numok_ofL : ∀ {l : List V}, (∀ v ∈ l, NumOk v.1 /\ v.2.All NumOk) -> (ofL l).All NumOk
 | [], _ => trivial
 | p :: r, h => ⟨(h p (by simp)).1, (h p (by simp)).2, numok_ofL fun v hv => h v (by simp [hv])⟩
def Nok (v : V) : Prop := NumOk v.1 /\ v.2.All NumOk
theorem nok_T (s : B) : Nok (tT s) := ⟨by simp [NumOk, tT], trivial⟩
theorem nok_L {l : List V} (h : ∀ v ∈ l, Nok v) : Nok (tL l) := ⟨by simp [NumOk, tL, plainH], numok_ofL h⟩
theorem nok_O {l : List (B × V)} (h : ∀ p ∈ l, Nok p.2) : Nok (tO l) := ⟨by unfold NumOk tO; simp, numok_ofL fun v hv => by obtain ⟨p, hp, rfl⟩ := List.mem_map.1 hv; exact h p hp⟩
theorem nok_Texts (l : List B) : Nok (tTexts l) := nok_L fun v hv => by obtain ⟨t, _, rfl⟩ := List.mem_map.1 hv; exact nok_T t
theorem nok_opt {C : Prop} [Decidable C] {k : B} {v : V} {l : List (B × V)} (h : Nok v) (hl : ∀ p ∈ l, Nok p.2) : ∀ p ∈ (if C then [] else [(k, v)]) ++ l, Nok p.2 := by
 intro p hp
 rcases List.mem_append.1 hp with hp | hp
 . split at hp
   . simp at hp
   . simp at hp; subst hp; exact h
 . exact hl p hp
theorem nok_img (i : Img) : Nok (imgT i) := by
 have hc : Nok (cfgT i.cfg) := by
   refine nok_O ?_
   unfold cfgM
   refine nok_opt (nok_Texts _) (nok_opt (nok_Texts _) (nok_opt (nok_Texts _) (nok_opt (nok_O fun p hp => ?_) (nok_opt (nok_O fun p hp => ?_) (nok_opt (nok_T _) fun p hp => ?_)))))
   . obtain ⟨q, _, rfl⟩ := List.mem_map.1 hp; exact nok_O (by simp)
   . obtain ⟨q, _, rfl⟩ := List.mem_map.1 hp; exact nok_T _
   . simp at hp; subst hp; exact nok_T _
 have hp : ∀ p : B × Bool, Nok (pastT p) := fun p => by
   unfold pastT
   refine nok_O fun q hq => ?_
   rcases List.mem_cons.1 hq with rfl | hq
   . exact nok_T _
   . split at hq
     . simp at hq; subst hq; exact ⟨by simp [NumOk, tTrue, plainH], trivial⟩
     . simp at hq
 refine nok_O fun p hx => ?_
 simp only [List.mem_cons, List.not_mem_nil, or_false] at hx
 rcases hx with rfl | rfl | rfl | rfl | rfl
 . exact nok_T _
 . exact nok_T _
 . exact hc
 . exact nok_L fun v hv => by obtain ⟨q, _, rfl⟩ := List.mem_map.1 hv; exact hp q
 . refine nok_O fun q hq => ?_
   simp only [List.mem_cons, List.not_mem_nil, or_false] at hq
   rcases hq with rfl | rfl
   . exact nok_T _
   . exact nok_Texts _
theorem progI_ok {s r : B} {h : Hd} {k : F} {i : Img} (hp : parse s = .ok h k r) (he : exImg (h, k) = some i) : progI s = if imgP i = (s, 0) then some i else none := by
 unfold progI
 rw [hp]
 simp only [he]
theorem prog_back {i : Img} {s : B} (hd : ∀ d ∈ i.diffs, d.length = 32) (h : imgP i = (s, 0)) : progI s = some i := by
 have h0 : w0 i = 0 := Classical.byContradiction fun hc => by
   unfold imgP at h
   rw [if_pos hc] at h
   injection h with _ h2
   exact hc h2
 have hp : printed (imgT i).1 (imgT i).2 = (s, 0) := by unfold imgP at h; rwa [if_neg (by simp [h0])] at h
 unfold printed at hp
 split at hp
 . rename_i hw
   injection hp with _ hp
   exact absurd hp hw
 . rename_i hw
   by_cases hl : 4194304 < (form (imgT i).1 (imgT i).2).length
   . rw [if_pos hl] at hp
     have h2 : (5 : Nat) = 0 := congrArg Prod.snd hp
     cases h2
   . rw [if_neg hl] at hp
     have hp : form (imgT i).1 (imgT i).2 = s := congrArg Prod.fst hp
     have h1 := parse_form (Decidable.not_not.1 hw) (nok_img i).1 (nok_img i).2 (Nat.le_of_not_lt hl)
     rw [hp] at h1
     rw [progI_ok h1 (ex_img h0 hd), if_pos h]
theorem prog_some {s : B} {i : Img} (h : progI s = some i) : imgP i = (s, 0) /\ ∀ d ∈ i.diffs, d.length = 32 := by
 unfold progI at h
 split at h
 . cases h
 . split at h
   . cases h
   . rename_i hx
     split at h
     . rename_i hy
       injection h with h
       subst h
       refine ⟨hy, ?_⟩
       unfold exImg at hx
       split at hx
       . cases hx
       . rename_i hd
         injection hx with hx
         subst hx
         exact digs_len hd
     . cases h
end Js.Cf
end Go.Proofs.YtjohdaobhonioaaGreatDoor
