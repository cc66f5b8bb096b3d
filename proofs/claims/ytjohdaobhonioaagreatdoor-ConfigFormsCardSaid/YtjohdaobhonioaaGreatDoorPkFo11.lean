/-
  Parts of the proof: HexP, CfP.
-/
import Derived.Lib.UnsafeStr
import Derived.Lib.Strings
import Derived.Laws.Small
import Derived.Test.YtjohdaobhonioaaGreatDoorPkFo0
namespace Go.Proofs.YtjohdaobhonioaaGreatDoor
namespace Plain
def hexc (n : Nat) : UInt8 := if n < 10 then UInt8.ofNat (48 + n) else UInt8.ofNat (87 + n)
def hex2 (x : UInt8) : List UInt8 := [hexc (x.toNat / 16), hexc (x.toNat % 16)]
def shaHead : List UInt8 := [115, 104, 97, 50, 53, 54, 58]
def hexAll (l : List UInt8) : List UInt8 := l.flatMap hex2
def digText (l : List UInt8) : List UInt8 := shaHead ++ hexAll l
theorem hexAll_take_succ (l : List UInt8) (k : Nat) (h : k < l.length) : hexAll (l.take (k + 1)) = hexAll (l.take k) ++ hex2 l[k] := by
 unfold hexAll
 rw [List.take_succ_eq_append_getElem h, List.flatMap_append]
 simp
theorem hexAll_length (l : List UInt8) : (hexAll l).length = 2 * l.length := by
 unfold hexAll
 induction l with
 | nil => rfl
 | cons x r ih => simp only [List.flatMap_cons, List.length_append, ih, hex2, List.length_cons, List.length_nil]; omega
theorem digText_length (l : List UInt8) : (digText l).length = 7 + 2 * l.length := by
 unfold digText; rw [List.length_append, hexAll_length]; rfl
theorem dig_at (n : Nat) (h : n < 16) : (⟨#[48, 49, 50, 51, 52, 53, 54, 55, 56, 57, 97, 98, 99, 100, 101, 102]⟩ : ByteArray)[n]'(h) = hexc n := by
 have key : ∀ m : Fin 16, (⟨#[48, 49, 50, 51, 52, 53, 54, 55, 56, 57, 97, 98, 99, 100, 101, 102]⟩ : ByteArray)[m.val]'(m.isLt) = hexc m.val := by decide
 exact key ⟨n, h⟩
theorem hexAll_take_getD (l : List UInt8) (k : Nat) (h : k < l.length) : hexAll (l.take (k + 1)) = hexAll (l.take k) ++ hex2 (l.getD k 0) := by
 rw [hexAll_take_succ l k h]
 simp [List.getD, List.getElem?_eq_getElem h]
def hexv (c : UInt8) : Option Nat := if 48 ≤ c.toNat /\ c.toNat ≤ 57 then some (c.toNat - 48) else if 97 ≤ c.toNat /\ c.toNat ≤ 102 then some (c.toNat - 87) else none
def hv (t : List UInt8) (i : Nat) : Nat := (hexv (t.getD i 0)).getD 0
theorem hexv_lt {c : UInt8} {v : Nat} (h : hexv c = some v) : v < 16 := by
 unfold hexv at h
 split at h
 . injection h; omega
 . split at h
   . injection h; omega
   . cases h
theorem hv_lt (t : List UInt8) (i : Nat) : hv t i < 16 := by
 unfold hv
 cases h : hexv (t.getD i 0) with
 | none => simp
 | some v => simpa using hexv_lt h
def accD (t : List UInt8) (k j : Nat) : UInt8 := if 2 * j + 1 < k then UInt8.ofNat (16 * hv t (2 * j) + hv t (2 * j + 1)) else if 2 * j < k then UInt8.ofNat (hv t (2 * j)) else 0
def accL (t : List UInt8) (k : Nat) : List UInt8 := (List.range 32).map (accD t k)
theorem accL_length (t : List UInt8) (k : Nat) : (accL t k).length = 32 := by simp [accL]
theorem accL_getD (t : List UInt8) (k j : Nat) (h : j < 32) : (accL t k).getD j 0 = accD t k j := by
 simp [accL, List.getD, h]
def z32 : List UInt8 := List.replicate 32 0
theorem accL_zero (t : List UInt8) : accL t 0 = z32 := by
 unfold z32
 apply List.ext_getElem
 . simp [accL]
 . intro i h1 h2
   rw [List.getElem_replicate]
   simp only [accL, List.getElem_map, accD]
   rw [if_neg (by omega), if_neg (by omega)]
theorem accL_succ (t : List UInt8) (k : Nat) :
   accL t (k + 1) = (accL t k).set (k / 2) (UInt8.ofNat (16 * (accD t k (k / 2)).toNat + hv t k)) := by
 apply List.ext_getElem
 . simp [accL]
 . intro i h1 h2
   simp only [accL, List.length_map, List.length_range] at h1
   rw [List.getElem_set]
   by_cases hi : k / 2 = i
   . rw [if_pos hi]
     simp only [accL, List.getElem_map, List.getElem_range]
     subst hi
     unfold accD
     have hlt := hv_lt t (2 * (k / 2))
     rcases Nat.mod_two_eq_zero_or_one k with hm | hm
     . rw [if_neg (by omega), if_pos (by omega), if_neg (by omega), if_neg (by omega)]
       have : 2 * (k / 2) = k := by omega
       rw [this]; simp
     . rw [if_pos (by omega), if_neg (by omega), if_pos (by omega)]
       have e1 : 2 * (k / 2) + 1 = k := by omega
       rw [e1]
       have e2 : (UInt8.ofNat (hv t (2 * (k / 2)))).toNat = hv t (2 * (k / 2)) := by
         rw [UInt8.toNat_ofNat']; omega
       rw [e2]
   . rw [if_neg hi]
     simp only [accL, List.getElem_map, List.getElem_range]
     unfold accD
     by_cases a : 2 * i + 1 < k
     . rw [if_pos (by omega), if_pos a]
     . rw [if_neg (by omega), if_neg a]
       by_cases b : 2 * i < k
       . rw [if_pos (by omega), if_pos b]
       . rw [if_neg (by omega), if_neg b]
theorem nibble_or (a v : Nat) (hv : v < 16) : (IntKind.u8.wrap ((a : Int) * 16)).toNat ||| v = (16 * a + v) % 256 := by
 have h1 : (IntKind.u8.wrap ((a : Int) * 16)).toNat = 16 * (a % 16) := by rw [IntKind.wrap_u8]; omega
 rw [h1, show (16 * a + v) % 256 = 16 * (a % 16) + v by omega]
 have key : ∀ x : Fin 16, ∀ y : Fin 16, (16 * x.val) ||| y.val = 16 * x.val + y.val := by decide
 exact key ⟨a % 16, by omega⟩ ⟨v, hv⟩
def allHex (t : List UInt8) (k : Nat) : Prop := ∀ i, i < k -> (hexv (t.getD i 0)).isSome = true
instance (t : List UInt8) (k : Nat) : Decidable (allHex t k) := by unfold allHex; infer_instance
def digParse (s : List UInt8) : Option (List UInt8) :=
 if Lib.hasPrefix s shaHead = true /\ (s.drop 7).length = 64 /\ allHex (s.drop 7) 64 then some (accL (s.drop 7) 64) else none
theorem hexv_hexc (n : Nat) (h : n < 16) : hexv (hexc n) = some n := by
 have key : ∀ m : Fin 16, hexv (hexc m.val) = some m.val := by decide
 exact key ⟨n, h⟩
theorem hexAll_getD (l : List UInt8) : ∀ i, i < l.length -> (hexAll l).getD (2 * i) 0 = hexc ((l.getD i 0).toNat / 16) /\ (hexAll l).getD (2 * i + 1) 0 = hexc ((l.getD i 0).toNat % 16) := by
 induction l with
 | nil => intro i h; simp at h
 | cons x r ih =>
  intro i h
  cases i with
  | zero => simp [hexAll, hex2]
  | succ i =>
   have := ih i (by simpa using h)
   have e : hexAll (x :: r) = hexc (x.toNat / 16) :: hexc (x.toNat % 16) :: hexAll r := by simp [hexAll, hex2]
   rw [e, show 2 * (i + 1) = 2 * i + 1 + 1 by omega]
   simpa using this
theorem digParse_digText (l : List UInt8) (h : l.length = 32) : digParse (digText l) = some l := by
 have hd : (digText l).drop 7 = hexAll l := by unfold digText; rw [List.drop_append_of_le_length (by decide)]; rfl
 have hlen : (hexAll l).length = 64 := by rw [hexAll_length]; omega
 have hall : ∀ i, i < 32 -> hexv ((hexAll l).getD (2 * i) 0) = some ((l.getD i 0).toNat / 16) /\ hexv ((hexAll l).getD (2 * i + 1) 0) = some ((l.getD i 0).toNat % 16) := by
   intro i hi
   have := hexAll_getD l i (by omega)
   have hb := (l.getD i 0).toNat_lt
   rw [this.1, this.2]
   exact ⟨hexv_hexc _ (by omega), hexv_hexc _ (by omega)⟩
 unfold digParse
 rw [hd, if_pos]
 . congr 1
   apply List.ext_getElem
   . simp [accL, h]
   . intro i h1 h2
     have hi : i < 32 := by simpa [accL] using h1
     have ha := hall i hi
     simp only [accL, List.getElem_map, List.getElem_range]
     unfold accD hv
     rw [if_pos (by omega), ha.1, ha.2]
     have hg : l.getD i 0 = l[i] := by simp [List.getD, List.getElem?_eq_getElem h2]
     rw [hg]
     simp only [Option.getD_some]
     rw [show 16 * (l[i].toNat / 16) + l[i].toNat % 16 = l[i].toNat by omega]
     simp
 . refine ⟨?_, hlen, ?_⟩
   . unfold digText Lib.hasPrefix shaHead; simp
   . intro i hi
     have ha := hall (i / 2) (by omega)
     rcases Nat.mod_two_eq_zero_or_one i with hm | hm
     . rw [show i = 2 * (i / 2) by omega, ha.1]; rfl
     . rw [show i = 2 * (i / 2) + 1 by omega, ha.2]; rfl
end Plain
end Go.Proofs.YtjohdaobhonioaaGreatDoor
namespace Go.Proofs.YtjohdaobhonioaaGreatDoor
namespace Js.Cf
abbrev B := List UInt8
structure Cfg where
 env : List (B × B)
 dir : B
 user : B
 ports : List B
 labels : List (B × B)
 cmd : List B
 entry : List B
structure Img where
 cfg : Cfg
 past : List (B × Bool)
 diffs : List B
abbrev V := Hd × F
def tT (s : B) : V := (⟨4, 0, s, []⟩, .nil)
def tL (l : List V) : V := (plainH 5, ofL l)
def tO (l : List (B × V)) : V := (⟨6, 0, [], l.map Prod.fst⟩, ofL (l.map Prod.snd))
def tN (z : Int) : V := (⟨3, z, [], []⟩, .nil)
def tZ : V := (plainH 0, .nil)
def tTrue : V := (plainH 2, .nil)
def frm (v : V) : B := form v.1 v.2
def nrm (v : V) : V := norm v.1 v.2
def wr (d : Nat) (v : V) : Nat := wrongs d v.1 v.2
theorem forms_ofL (l : List V) : forms (ofL l) = l.map frm := by induction l with
 | nil => rfl
 | cons p r ih => rw [ofL, forms, ih]; rfl
theorem norms_ofL (l : List V) : norms (ofL l) = l.map nrm := by induction l with
 | nil => rfl
 | cons p r ih => rw [ofL, norms, ih]; rfl
theorem zip_map2 {α β γ : Type} (f : α -> β) (g : α -> γ) (l : List α) : (l.map f).zip (l.map g) = l.map fun x => (f x, g x) := by
 induction l with
 | nil => rfl
 | cons p r ih => simp [ih]
theorem frm_T (s : B) : frm (tT s) = quoted s := rfl
theorem frm_L (l : List V) : frm (tL l) = 91 :: (commas (l.map frm) ++ [93]) := by
 show formH (plainH 5) (forms (ofL l)) = _
 rw [forms_ofL]; rfl
theorem frm_O (l : List (B × V)) : frm (tO l) = 123 :: (commas ((sortK (l.map fun p => (p.1, frm p.2))).map member) ++ [125]) := by
 show formH ⟨6, 0, [], l.map Prod.fst⟩ (forms (ofL (l.map Prod.snd))) = _
 rw [forms_ofL, List.map_map]
 show 123 :: (commas ((sortK ((l.map Prod.fst).zip (l.map (frm ∘ Prod.snd)))).map member) ++ [125]) = _
 rw [zip_map2]; rfl
theorem nrm_T (s : B) : nrm (tT s) = tT s := rfl
theorem nrm_L (l : List V) : nrm (tL l) = tL (l.map nrm) := by
 show normV (plainH 5) (norms (ofL l)) = _
 rw [norms_ofL]; rfl
theorem nrm_O (l : List (B × V)) : nrm (tO l) = tO (sortK (l.map fun p => (p.1, nrm p.2))) := by
 show normV ⟨6, 0, [], l.map Prod.fst⟩ (norms (ofL (l.map Prod.snd))) = _
 rw [norms_ofL, List.map_map]
 show ((⟨6, 0, [], (sortK ((l.map Prod.fst).zip (l.map (nrm ∘ Prod.snd)))).map Prod.fst⟩ : Hd), ofL ((sortK ((l.map Prod.fst).zip (l.map (nrm ∘ Prod.snd)))).map Prod.snd)) = _
 rw [zip_map2]; rfl
theorem sortK_id {α : Type} : ∀ {l : List (B × α)}, Srt l -> sortK l = l
 | [], _ => rfl
 | p :: r, h => by
  have h1 := List.pairwise_cons.1 h
  show ins p (sortK r) = _
  rw [sortK_id h1.2]
  cases r with
  | nil => rfl
  | cons q r =>
   have hq := h1.1 q (by simp)
   have : lexL q.1 p.1 = false := by
    cases hx : lexL q.1 p.1 with
    | false => rfl
    | true => have := lexL_trans hx hq; rw [lexL_irrefl] at this; cases this
   rw [ins, this]; rfl
def Wr (d : Nat) (v : V) (P : Prop) : Prop := (P -> wr d v = 0) /\ (¬ P -> wr d v = 6)
theorem Wr.iff {d : Nat} {v : V} {P Q : Prop} (h : Wr d v P) (e : P ↔ Q) : Wr d v Q := by rwa [<- propext e]
theorem own_T {d : Nat} (hd : d ≤ 32) (s : B) : own d ⟨4, 0, s, []⟩ 0 = if wrong s ≠ none then 6 else 0 := by
 unfold own
 rw [if_neg (by omega), if_neg (by simp)]
 by_cases h : wrong s = none <;> simp [h]
theorem wr_T {d : Nat} (hd : d ≤ 32) (s : B) : Wr d (tT s) (wrong s = none) := by
 have e : wr d (tT s) = if wrong s ≠ none then 6 else 0 := by
  show wrongs d ⟨4, 0, s, []⟩ .nil = _
  unfold wrongs
  have := own_T hd s
  simp only [F.len, this]
  by_cases h : wrong s = none <;> simp [h]
 exact ⟨fun h => by rw [e]; simp [h], fun h => by rw [e]; simp [h]⟩
theorem wr_plain {d : Nat} (hd : d ≤ 32) (k : Int) (h0 : 0 ≤ k) (h4 : k < 4) (z : Int) : Wr d (⟨k, z, [], []⟩, .nil) True := by
 refine ⟨fun _ => ?_, fun h => absurd trivial h⟩
 have ho : own d ⟨k, z, [], []⟩ 0 = 0 := by
  unfold own
  rw [if_neg (by omega), if_neg (by simp only; omega), if_neg (by simp only; omega), if_pos (by simp only; omega)]
 show wrongs d ⟨k, z, [], []⟩ .nil = 0
 unfold wrongs
 simp only [F.len, ho]
 rw [if_neg (by omega), if_neg (by omega)]
theorem wrongsF_ofL {α : Type} {d : Nat} {f : α -> V} {P : α -> Prop} {l : List α} (h : ∀ x ∈ l, Wr d (f x) (P x)) :
  ((∀ x ∈ l, P x) -> wrongsF d (ofL (l.map f)) = 0) /\ ((¬ ∀ x ∈ l, P x) -> wrongsF d (ofL (l.map f)) = 6) := by
 induction l with
 | nil => exact ⟨fun _ => rfl, fun h => absurd (by simp) h⟩
 | cons p r ih =>
  have h1 := h p (by simp)
  have h2 := ih (fun x hx => h x (by simp [hx]))
  have e : wrongsF d (ofL ((p :: r).map f)) = if wr d (f p) ≠ 0 then wr d (f p) else wrongsF d (ofL (r.map f)) := wrongsF_cons d (f p).1 (f p).2 _
  rw [e]
  by_cases hp : P p
  . rw [if_neg (by rw [h1.1 hp]; simp)]
    exact ⟨fun hx => h2.1 fun x hx' => hx x (by simp [hx']), fun hx => h2.2 fun hr => hx fun x hx' => by
     rcases List.mem_cons.1 hx' with rfl | hx'
     . exact hp
     . exact hr x hx'⟩
  . have e6 := h1.2 hp
    rw [if_pos (by rw [e6]; simp)]
    exact ⟨fun hx => absurd (hx p (by simp)) hp, fun _ => e6⟩
theorem ofL_len (l : List V) : (ofL l).len = l.length := by rw [<- toL_len, toL_ofL]
theorem wr_L {α : Type} {d : Nat} (hd : d ≤ 32) {f : α -> V} {P : α -> Prop} {l : List α} (h : ∀ x ∈ l, Wr (d + 1) (f x) (P x)) : Wr d (tL (l.map f)) (∀ x ∈ l, P x) := by
 have ho : own d (plainH 5) (ofL (l.map f)).len = 0 := by
  unfold own plainH
  rw [if_neg (by omega), if_neg (by simp), if_neg (by simp), if_pos (by simp)]
 have e : wr d (tL (l.map f)) = wrongsF (d + 1) (ofL (l.map f)) := by
  show wrongs d (plainH 5) (ofL (l.map f)) = _
  unfold wrongs
  rw [ho]
  simp [plainH]
 have := wrongsF_ofL h
 exact ⟨fun hx => by rw [e]; exact this.1 hx, fun hx => by rw [e]; exact this.2 hx⟩
theorem dupL_nodup : ∀ {l : List B}, l.Nodup -> dupL l = false
 | [], _ => rfl
 | x :: r, h => by
  have := List.nodup_cons.1 h
  rw [dupL, dupL_nodup this.2]
  simp [this.1]
def kCmd : B := [67, 109, 100]
def kEntry : B := [69, 110, 116, 114, 121, 112, 111, 105, 110, 116]
def kEnv : B := [69, 110, 118]
def kPorts : B := [69, 120, 112, 111, 115, 101, 100, 80, 111, 114, 116, 115]
def kLabels : B := [76, 97, 98, 101, 108, 115]
def kUser : B := [85, 115, 101, 114]
def kDir : B := [87, 111, 114, 107, 105, 110, 103, 68, 105, 114]
def kBy : B := [99, 114, 101, 97, 116, 101, 100, 95, 98, 121]
def kEmpty : B := [101, 109, 112, 116, 121, 95, 108, 97, 121, 101, 114]
def kArch : B := [97, 114, 99, 104, 105, 116, 101, 99, 116, 117, 114, 101]
def kOs : B := [111, 115]
def kCfg : B := [99, 111, 110, 102, 105, 103]
def kHist : B := [104, 105, 115, 116, 111, 114, 121]
def kRoot : B := [114, 111, 111, 116, 102, 115]
def kType : B := [116, 121, 112, 101]
def kDiffs : B := [100, 105, 102, 102, 95, 105, 100, 115]
def vArch : B := [97, 109, 100, 54, 52]
def vOs : B := [108, 105, 110, 117, 120]
def vType : B := [108, 97, 121, 101, 114, 115]
def tTexts (l : List B) : V := tL (l.map tT)
def envB (p : B × B) : B := p.1 ++ 61 :: p.2
def cfgM (c : Cfg) : List (B × V) :=
 (if c.cmd = [] then [] else [(kCmd, tTexts c.cmd)]) ++ ((if c.entry = [] then [] else [(kEntry, tTexts c.entry)]) ++ ((if c.env = [] then [] else [(kEnv, tTexts (c.env.map envB))]) ++
 ((if c.ports = [] then [] else [(kPorts, tO (c.ports.map fun p => (p, tO [])))]) ++ ((if c.labels = [] then [] else [(kLabels, tO (c.labels.map fun p => (p.1, tT p.2)))]) ++
 ((if c.user = [] then [] else [(kUser, tT c.user)]) ++ [(kDir, tT c.dir)])))))
def cfgT (c : Cfg) : V := tO (cfgM c)
def pastT (p : B × Bool) : V := tO ((kBy, tT p.1) :: if p.2 then [(kEmpty, tTrue)] else [])
def rootT (i : Img) : V := tO [(kType, tT vType), (kDiffs, tTexts (i.diffs.map Plain.digText))]
def imgT (i : Img) : V := tO [(kArch, tT vArch), (kOs, tT vOs), (kCfg, cfgT i.cfg), (kHist, tL (i.past.map pastT)), (kRoot, rootT i)]
def letterB (c : UInt8) : Bool := decide (97 ≤ c.toNat /\ c.toNat ≤ 122) || decide (65 ≤ c.toNat /\ c.toNat ≤ 90) || c == 95
def digitB (c : UInt8) : Bool := decide (48 ≤ c.toNat /\ c.toNat ≤ 57)
def varB : B -> Bool
 | [] => false
 | c :: r => letterB c && r.all fun c => letterB c || digitB c
def portB (s : B) : Bool :=
 let n := s.takeWhile digitB
 decide (1 ≤ dval n /\ dval n ≤ 65535) && decide (Lib.decDigits (dval n) = n) && (decide (s.dropWhile digitB = [47, 116, 99, 112]) || decide (s.dropWhile digitB = [47, 117, 100, 112]))
def sizeT (l : List B) : Nat := (l.map List.length).sum
def flatP (l : List (B × B)) : List B := l.flatMap fun p => [p.1, p.2]
def textsI (i : Img) : List B := [i.cfg.dir, i.cfg.user] ++ (i.cfg.ports ++ (i.cfg.cmd ++ (i.cfg.entry ++ (flatP i.cfg.env ++ (flatP i.cfg.labels ++ i.past.map Prod.fst)))))
def cutL : B -> List B
 | [] => [[]]
 | c :: r => if c = 47 then [] :: cutL r else match cutL r with
  | [] => [[c]]
  | x :: l => (c :: x) :: l
def stepL (st : List B) (p : B) : List B := if p = [] ∨ p = [46] then st else if p = [46, 46] then st.dropLast else st ++ [p]
def slashes : List B -> B
 | [] => []
 | [x] => x
 | x :: y :: r => x ++ 47 :: slashes (y :: r)
def cleanB (s : B) : B := slashes ((cutL s).foldl stepL [])
def w0 (i : Img) : Nat :=
 if 1024 < i.diffs.length ∨ 1024 < i.past.length ∨ 64 < i.cfg.cmd.length ∨ 64 < i.cfg.entry.length ∨ 262144 < sizeT (textsI i) then 5
 else if (i.cfg.env.all fun p => varB p.1) = false then 8
 else if dupL (i.cfg.env.map Prod.fst) = true then 11
 else if i.cfg.ports.all portB = false then 4
 else if risesL i.cfg.ports = false ∨ risesL (i.cfg.labels.map Prod.fst) = false ∨ (i.cfg.labels.map Prod.fst).head? = some [] ∨ i.cfg.dir ≠ 47 :: cleanB i.cfg.dir then 1
 else 0
def objB (l : List (B × B)) : B := 123 :: (commas (l.map member) ++ [125])
def listB (l : List B) : B := 91 :: (commas (l.map quoted) ++ [93])
def cfgW (c : Cfg) : List (B × B) :=
 (if c.cmd = [] then [] else [(kCmd, listB c.cmd)]) ++ ((if c.entry = [] then [] else [(kEntry, listB c.entry)]) ++ ((if c.env = [] then [] else [(kEnv, listB (c.env.map envB))]) ++
 ((if c.ports = [] then [] else [(kPorts, objB (c.ports.map fun p => (p, [123, 125])))]) ++ ((if c.labels = [] then [] else [(kLabels, objB (c.labels.map fun p => (p.1, quoted p.2)))]) ++
 ((if c.user = [] then [] else [(kUser, quoted c.user)]) ++ [(kDir, quoted c.dir)])))))
def pastW (p : B × Bool) : B := objB ((kBy, quoted p.1) :: if p.2 then [(kEmpty, [116, 114, 117, 101])] else [])
def rootW (i : Img) : B := objB [(kDiffs, listB (i.diffs.map Plain.digText)), (kType, quoted vType)]
def imgB (i : Img) : B := objB [(kArch, quoted vArch), (kCfg, objB (cfgW i.cfg)), (kHist, 91 :: (commas (i.past.map pastW) ++ [93])), (kOs, quoted vOs), (kRoot, rootW i)]
def imgP (i : Img) : B × Nat := if w0 i ≠ 0 then ([], w0 i) else printed (imgT i).1 (imgT i).2
theorem srt_of_rises {α β : Type} (g : α -> List UInt8) (f : α -> β) : ∀ {l : List α}, risesL (l.map g) = true -> Srt (l.map fun x => (g x, f x))
 | [], _ => List.Pairwise.nil
 | [x], _ => by simp [Srt]
 | x :: y :: r, h => by
  simp only [List.map_cons, risesL, Bool.and_eq_true] at h
  have ih := srt_of_rises g f (l := y :: r) (by simpa using h.2)
  simp only [List.map_cons] at ih ⊢
  refine List.pairwise_cons.2 ⟨?_, ih⟩
  have hy := List.pairwise_cons.1 ih
  intro q hq
  rcases List.mem_cons.1 hq with rfl | hq
  . exact h.1
  . exact lexL_trans h.1 (hy.1 q hq)
theorem frm_Texts (l : List B) : frm (tTexts l) = listB l := by
 unfold tTexts listB
 rw [frm_L, List.map_map]
 rfl
theorem frm_srt {l : List (B × V)} (h : Srt (l.map fun p => (p.1, frm p.2))) : frm (tO l) = objB (l.map fun p => (p.1, frm p.2)) := by
 rw [frm_O, sortK_id h]; rfl
theorem cfgM_srt {α : Type} (f : V -> α) (c : Cfg) : Srt ((cfgM c).map fun p => (p.1, f p.2)) := by
 unfold cfgM Srt
 simp only [List.map_append, List.pairwise_append, List.mem_append]
 have hs : ∀ (p : Prop) [Decidable p] (k : B) (v : V), ((if p then [] else [(k, v)]).map fun q : B × V => (q.1, f q.2)).Pairwise fun a b => lexL a.1 b.1 = true := by
   intro p _ k v; split <;> simp
 have hm : ∀ (p : Prop) [Decidable p] (k : B) (v : V) (x : B × α), x ∈ ((if p then [] else [(k, v)]).map fun q : B × V => (q.1, f q.2)) -> x.1 = k := by
   intro p _ k v x hx
   split at hx
   . simp at hx
   . simp at hx; rw [hx]
 have h1 : ∀ (k : B) (v : V) (x : B × α), x ∈ ([(k, v)].map fun q : B × V => (q.1, f q.2)) -> x.1 = k := by
   intro k v x hx; simp at hx; rw [hx]
 refine ⟨hs _ _ _, ⟨hs _ _ _, ⟨hs _ _ _, ⟨hs _ _ _, ⟨hs _ _ _, ⟨hs _ _ _, by simp, ?_⟩, ?_⟩, ?_⟩, ?_⟩, ?_⟩, ?_⟩
 . intro a ha b hb
   rw [hm _ _ _ _ ha, h1 _ _ _ hb]; decide
 . intro a ha b hb
   rw [hm _ _ _ _ ha]
   rcases hb with hb | hb
   . rw [hm _ _ _ _ hb]; decide
   . rw [h1 _ _ _ hb]; decide
 . intro a ha b hb
   rw [hm _ _ _ _ ha]
   rcases hb with hb | hb | hb
   . rw [hm _ _ _ _ hb]; decide
   . rw [hm _ _ _ _ hb]; decide
   . rw [h1 _ _ _ hb]; decide
 . intro a ha b hb
   rw [hm _ _ _ _ ha]
   rcases hb with hb | hb | hb | hb
   . rw [hm _ _ _ _ hb]; decide
   . rw [hm _ _ _ _ hb]; decide
   . rw [hm _ _ _ _ hb]; decide
   . rw [h1 _ _ _ hb]; decide
 . intro a ha b hb
   rw [hm _ _ _ _ ha]
   rcases hb with hb | hb | hb | hb | hb
   . rw [hm _ _ _ _ hb]; decide
   . rw [hm _ _ _ _ hb]; decide
   . rw [hm _ _ _ _ hb]; decide
   . rw [hm _ _ _ _ hb]; decide
   . rw [h1 _ _ _ hb]; decide
 . intro a ha b hb
   rw [hm _ _ _ _ ha]
   rcases hb with hb | hb | hb | hb | hb | hb
   . rw [hm _ _ _ _ hb]; decide
   . rw [hm _ _ _ _ hb]; decide
   . rw [hm _ _ _ _ hb]; decide
   . rw [hm _ _ _ _ hb]; decide
   . rw [hm _ _ _ _ hb]; decide
   . rw [h1 _ _ _ hb]; decide
theorem frm_cfg {c : Cfg} (hp : risesL c.ports = true) (hl : risesL (c.labels.map Prod.fst) = true) : frm (cfgT c) = objB (cfgW c) := by
 unfold cfgT
 rw [frm_srt (cfgM_srt frm c)]
 have e1 : frm (tO (c.ports.map fun p => (p, tO []))) = objB (c.ports.map fun p => (p, [123, 125])) := by
  rw [frm_srt (by rw [List.map_map]; exact srt_of_rises (fun x : B => x) _ (by simpa using hp)), List.map_map]; rfl
 have e2 : frm (tO (c.labels.map fun p => (p.1, tT p.2))) = objB (c.labels.map fun p => (p.1, quoted p.2)) := by
  rw [frm_srt (by rw [List.map_map]; exact srt_of_rises Prod.fst _ hl), List.map_map]; rfl
 unfold cfgM cfgW
 simp only [List.map_append, List.map_cons, List.map_nil, apply_ite (List.map (fun p : B × V => (p.1, frm p.2))), frm_Texts, e1, e2, frm_T]
theorem frm_past (p : B × Bool) : frm (pastT p) = pastW p := by
 unfold pastT pastW
 cases p.2
 . rfl
 . rw [frm_O]; rfl
theorem frm_root (i : Img) : frm (rootT i) = rootW i := by
 unfold rootT rootW
 rw [frm_O, <- frm_Texts]
 rfl
theorem frm_img {i : Img} (hp : risesL i.cfg.ports = true) (hl : risesL (i.cfg.labels.map Prod.fst) = true) : frm (imgT i) = imgB i := by
 have e1 := frm_cfg hp hl
 have e2 : frm (tL (i.past.map pastT)) = 91 :: (commas (i.past.map pastW) ++ [93]) := by
  rw [frm_L, List.map_map]
  congr 3
  exact List.map_congr_left fun p _ => frm_past p
 unfold imgT imgB
 rw [<- e1, <- e2, <- frm_root, frm_O]
 rfl
end Js.Cf
end Go.Proofs.YtjohdaobhonioaaGreatDoor
