/-
  The walks of package json's unit and escape at this seat's translation, for every text.
-/
import Derived.Test.YtlfeddgpfaigkaaGreatDoorJsA
import Derived.Laws.BitsAllLaws
import Derived.Laws.Runes
import Derived.OwnWalk
namespace Go.Proofs.YtlfeddgpfaigkaaGreatDoor
open Go.RowKit
namespace Js
/-- What is left of a unit behind k bytes. -/
def unitR (k v : Nat) (t : List UInt8) : U := if k = 0 then unit t else if k = 1 then (match t with
  | [] => .short
  | d :: t => if d = 117 then unitD 4 0 t else .bad) else unitD (6 - k) v t
theorem unitR0 (v : Nat) (c : UInt8) (r : List UInt8) : unitR 0 v (c :: r) = if c = 92 then unitR 1 0 r else .bad := by
  unfold unitR unit
  rfl
theorem unitR1 (v : Nat) (c : UInt8) (r : List UInt8) : unitR 1 v (c :: r) = if c = 117 then unitR 2 0 r else .bad := rfl
theorem unitR2 {k : Nat} (h2 : 2 ≤ k) (h6 : k < 6) (v : Nat) (c : UInt8) (r : List UInt8) : unitR k v (c :: r) = match hexd c with
    | none => .bad
    | some d => unitR (k + 1) (16 * v + d) r := by
  unfold unitR
  rw [if_neg (by omega), if_neg (by omega), show 6 - k = (5 - k) + 1 by omega]
  simp only [unitD]
  cases hexd c with
  | none => rfl
  | some d => simp only; rw [if_neg (by omega), if_neg (by omega), show 6 - (k + 1) = 5 - k by omega]
theorem unitRn {k : Nat} (h6 : k < 6) (v : Nat) : unitR k v [] = .short := by
  unfold unitR
  split
  · rfl
  · split
    · rfl
    · rw [show 6 - k = (5 - k) + 1 by omega]; rfl
theorem unitR6 (v : Nat) (t : List UInt8) : unitR 6 v t = .val v := rfl
theorem wrap_i32 {n : Int} (h0 : 0 ≤ n) (h1 : n < 2147483648) : IntKind.i32.wrap n = n := by
  have hm : n % 4294967296 = n := by omega
  unfold IntKind.wrap
  simp [IntKind.bits, IntKind.signed, hm]
  omega
theorem ofInt_i32 (a : Nat) (ha : a < 4294967296) : (BitVec.ofInt 32 (a : Int)).toNat = a := by
  rw [BitVec.ofInt_natCast, BitVec.toNat_ofNat]; exact Nat.mod_eq_of_lt (by omega)
theorem i32_or_nat (a b : Nat) (ha : a < 2147483648) (hb : b < 2147483648) : bits .or .i32 (a : Int) (b : Int) = ((a ||| b : Nat) : Int) := by
  have hx : a ||| b < 2 ^ 31 := Nat.or_lt_two_pow (by omega) (by omega)
  show IntKind.i32.wrap ((BitVec.ofInt 32 (a : Int) ||| BitVec.ofInt 32 (b : Int)).toNat : Int) = _
  rw [BitVec.toNat_or, ofInt_i32 a (by omega), ofInt_i32 b (by omega), wrap_i32 (by omega) (by omega)]
theorem or_add (a d : Nat) (hd : d < 16) : (16 * a) ||| d = 16 * a + d := by
  have := Nat.two_pow_add_eq_or_of_lt (i := 4) (b := d) (by omega) a
  exact this.symm
/-- What unit answers. -/
def UnPost (u : U) (w : World) (x : Ending) (w' : World) : Prop :=
  match u with
  | .val v => x = .returned (.tuple #[.int .i32 v, .int .i64 6, .bool true]) ∧ w = w'
  | .short => ∃ v n : Nat, n < 6 ∧ x = .returned (.tuple #[.int .i32 v, .int .i64 n, .bool true]) ∧ w = w'
  | .bad => ∃ n : Nat, x = .returned (.tuple #[.int .i32 0, .int .i64 n, .bool false]) ∧ w = w'
theorem or32 (c : UInt8) : bits .or .u8 (c.toNat : Int) 32 = ((c ||| 32).toNat : Int) := by
  have h := u8_or_nat c.toNat 32 c.toNat_lt (by omega)
  have e : ((32 : Nat) : Int) = 32 := rfl
  rw [e] at h
  rw [h, UInt8.toNat_or]
  rfl
set_option maxHeartbeats 4000000 in
set_option maxRecDepth 100000 in
theorem unit_any (s : List UInt8) (hs : s.length ≤ 4398046511104) (w : World) :
    Calls Tryz.prog 166 #[.string ⟨s.toArray⟩] w (UnPost (unit s) w) := by
  go_enter Tryz.func166, Tryz.ntmps166
  go_wp2_with fail
  go_loop [5, 8] (fun v k => ∃ a i : Nat, i ≤ 6 ∧ k = .int .i64 i ∧ v = .int .i32 a ∧ Hid (unit s = unitR i a (s.drop i)) ∧ Hid ((i ≤ 2 → a = 0) ∧ (i = 3 → a < 16) ∧ (i = 4 → a < 256) ∧ (i = 5 → a < 4096) ∧ a < 65536)) (fun _ k => 6 - (intOf k).toNat)
  case atStart => exact ⟨0, 0, by omega, rfl, rfl, Lib.hid rfl, Lib.hid ⟨fun _ => rfl, by omega, by omega, by omega, by omega⟩⟩
  case round =>
    obtain ⟨a, i, hi, rfl, rfl, HU, HA⟩ := hrel
    by_cases h6 : i = 6
    · subst h6
      have HP : Hid (UnPost (unit s) w (.returned (.tuple #[.int .i32 a, .int .i64 6, .bool true])) w) := Lib.hid (by rw [HU.out, unitR6]; exact ⟨rfl, rfl⟩)
      go_wp2
      go_ret3
      exact HP.out
    · have hi6 : (i : Int) < 6 := by omega
      by_cases hlt : i < s.length
      · have hidx := run_index_list Tryz.underlying9 s i hlt
        have HD := Lib.hid (drop_at hlt)
        generalize s.getD i 0 = c at hidx HD
        have ho := or32 c
        have HI := Lib.hid (index_any hexL (c ||| 32))
        unfold hexL at HI
        rw [show Lib.indexByte [48, 49, 50, 51, 52, 53, 54, 55, 56, 57, 97, 98, 99, 100, 101, 102] (c ||| 32) = hexI c from rfl] at HI
        have HX := Lib.hid (hex_idx c)
        obtain ⟨o, ho2⟩ : ∃ o, (c ||| 32) = o := ⟨_, rfl⟩
        rw [ho2] at ho HI
        clear ho2
        by_cases hi0 : i = 0
        · subst hi0
          have hne : ¬ s = [] := by rintro rfl; simp at hlt
          have hidx : ∀ w, (Instr.index 9 (.string ⟨s.toArray⟩) (.int .i64 0)).run Tryz.prog w = .ok (.int .u8 c.toNat) w := hidx
          by_cases hc : c = 92
          · have q1 : ((c.toNat : Int) != 92) = false := n8t hc
            have q2 : ((c.toNat : Int) == 92) = true := b8t hc
            have HU1 : Hid (unit s = unitR (0 + 1) a (s.drop (0 + 1))) := Lib.hid (by
              have h := HU.out
              rw [HD.out, unitR0, if_pos hc] at h
              rw [h, (HA.out).1 (by omega)])
            have HA1 : Hid ((0 + 1 ≤ 2 → a = 0) ∧ (0 + 1 = 3 → a < 16) ∧ (0 + 1 = 4 → a < 256) ∧ (0 + 1 = 5 → a < 4096) ∧ a < 65536) := Lib.hid (by have := HA.out; omega)
            clear HU HA HD hc HX
            go_wp2_with fail
            refine (HI.out _).mono ?_
            rintro x w1 ⟨rfl, rfl⟩
            go_wp2
            go_round
            case rel => exact ⟨a, 0 + 1, by omega, rfl, rfl, HU1, HA1⟩
            case measure => simp [intOf]
          · have q1 : ((c.toNat : Int) != 92) = true := n8f hc
            have q2 : ((c.toNat : Int) == 92) = false := b8f hc
            have HP : Hid (UnPost (unit s) w (.returned (.tuple #[.int .i32 0, .int .i64 0, .bool false])) w) := Lib.hid (by
              rw [HU.out, HD.out, unitR0, if_neg hc]; exact ⟨0, rfl, rfl⟩)
            clear HU HA HD hc HX
            go_wp2_with fail
            refine (HI.out _).mono ?_
            rintro x w1 ⟨rfl, rfl⟩
            go_wp2
            go_ret3
            exact HP.out
        · by_cases hi1 : i = 1
          · subst hi1
            have hidx : ∀ w, (Instr.index 9 (.string ⟨s.toArray⟩) (.int .i64 1)).run Tryz.prog w = .ok (.int .u8 c.toNat) w := hidx
            by_cases hc : c = 117
            · have q1 : ((c.toNat : Int) != 117) = false := n8t hc
              have q2 : ((c.toNat : Int) == 117) = true := b8t hc
              have HU1 : Hid (unit s = unitR (1 + 1) a (s.drop (1 + 1))) := Lib.hid (by
                have h := HU.out
                rw [HD.out, unitR1, if_pos hc] at h
                rw [h, (HA.out).1 (by omega)])
              have HA1 : Hid ((1 + 1 ≤ 2 → a = 0) ∧ (1 + 1 = 3 → a < 16) ∧ (1 + 1 = 4 → a < 256) ∧ (1 + 1 = 5 → a < 4096) ∧ a < 65536) := Lib.hid (by have := HA.out; omega)
              clear HU HA HD hc HX
              go_wp2_with fail
              refine (HI.out _).mono ?_
              rintro x w1 ⟨rfl, rfl⟩
              go_wp2
              go_round
              case rel => exact ⟨a, 1 + 1, by omega, rfl, rfl, HU1, HA1⟩
              case measure => simp [intOf]
            · have q1 : ((c.toNat : Int) != 117) = true := n8f hc
              have q2 : ((c.toNat : Int) == 117) = false := b8f hc
              have HP : Hid (UnPost (unit s) w (.returned (.tuple #[.int .i32 0, .int .i64 1, .bool false])) w) := Lib.hid (by
                rw [HU.out, HD.out, unitR1, if_neg hc]; exact ⟨1, rfl, rfl⟩)
              clear HU HA HD hc HX
              go_wp2_with fail
              refine (HI.out _).mono ?_
              rintro x w1 ⟨rfl, rfl⟩
              go_wp2
              go_ret3
              exact HP.out
          · have p0 : ((i : Int) == 0) = false := by rw [beq_eq_false_iff_ne]; omega
            have p1 : ((i : Int) == 1) = false := by rw [beq_eq_false_iff_ne]; omega
            have p2 : (1 : Int) < i := by omega
            cases hx : hexd c with
            | none =>
              have HP : Hid (UnPost (unit s) w (.returned (.tuple #[.int .i32 0, .int .i64 i, .bool false])) w) := Lib.hid (by
                rw [HU.out, HD.out, unitR2 (by omega) (by omega), hx]; exact ⟨i, rfl, rfl⟩)
              have hb := HX.out.1.1 hx
              generalize hexI c = z at HI hb
              clear HU HA HD HX hx
              by_cases hz : z < 0
              · clear hb
                go_wp2_with fail
                refine (HI.out _).mono ?_
                rintro x w1 ⟨rfl, rfl⟩
                go_wp2
                go_ret3
                exact HP.out
              · have h48 : (c.toNat : Int) < 48 := by omega
                clear hb
                go_wp2_with fail
                refine (HI.out _).mono ?_
                rintro x w1 ⟨rfl, rfl⟩
                go_wp2
                go_ret3
                exact HP.out
            | some d =>
              have hd := hexd_lt hx
              have hz := HX.out.2 d hx
              have h48 : ¬ (c.toNat : Int) < 48 := by
                have : ¬ (hexI c < 0 ∨ c.toNat < 48) := fun h => by have := HX.out.1.2 h; rw [hx] at this; cases this
                omega
              rw [hz] at HI
              have hz0 : ¬ (d : Int) < 0 := by omega
              have HU1 : Hid (unit s = unitR (i + 1) (16 * a + d) (s.drop (i + 1))) := Lib.hid (by
                have h := HU.out
                rw [HD.out, unitR2 (by omega) (by omega), hx] at h
                exact h)
              have hb := HA.out
              have HA1 : Hid ((i + 1 ≤ 2 → 16 * a + d = 0) ∧ (i + 1 = 3 → 16 * a + d < 16) ∧ (i + 1 = 4 → 16 * a + d < 256) ∧ (i + 1 = 5 → 16 * a + d < 4096) ∧ 16 * a + d < 65536) := Lib.hid (by omega)
              have e1 : IntKind.i32.wrap ((a : Int) * 16) = ((16 * a : Nat) : Int) := by rw [wrap_i32 (by omega) (by omega)]; omega
              have e2 : bits .or .i32 ((16 * a : Nat) : Int) (d : Int) = ((16 * a + d : Nat) : Int) := by rw [i32_or_nat _ _ (by omega) (by omega), or_add _ _ hd]
              have e3 : IntKind.i32.wrap (d : Int) = d := wrap_i32 (by omega) (by omega)
              obtain ⟨a1, ha1⟩ : ∃ a1, 16 * a + d = a1 := ⟨_, rfl⟩
              obtain ⟨a2, ha2⟩ : ∃ a2, 16 * a = a2 := ⟨_, rfl⟩
              rw [ha1] at e2 HU1 HA1
              rw [ha2] at e1 e2
              clear HU HA HD HX hx hb hz ha1 ha2
              go_wp2_with fail
              refine (HI.out _).mono ?_
              rintro x w1 ⟨rfl, rfl⟩
              go_wp2
              go_round
              case rel => exact ⟨a1, i + 1, by omega, by go_num, rfl, HU1, HA1⟩
              case measure => simp [intOf]; omega
      · have HP : Hid (UnPost (unit s) w (.returned (.tuple #[.int .i32 a, .int .i64 i, .bool true])) w) := Lib.hid (by
          rw [HU.out, List.drop_eq_nil_of_le (by omega), unitRn (by omega)]; exact ⟨a, i, by omega, rfl, rfl⟩)
        go_wp2
        go_ret3
        exact HP.out
/-- What escape answers. -/
def EscPost (t : List UInt8) (w : World) (x : Ending) (w' : World) : Prop :=
  match esc t with
  | .emit b r => ∃ n k : Nat, x = .returned (.tuple #[.int .i64 n, .string ⟨b.toArray⟩, .int .i64 0]) ∧ r = t.drop n ∧ 2 ≤ n ∧ n ≤ t.length ∧ w' = w.drewN k
  | .err no _ => ∃ k : Nat, x = .returned (.tuple #[.int .i64 0, .string ⟨#[]⟩, .int .i64 no]) ∧ w' = w.drewN k
  | .fin _ => False
-- <
set_option maxHeartbeats 4000000 in
set_option maxRecDepth 100000 in
theorem escape_any (t : List UInt8) (hs : t.length ≤ 4398046511104) (w : World) :
    Calls Tryz.prog 149 #[.string ⟨t.toArray⟩] w (EscPost t w) := by
  by_cases h2 : t.length < 2
  · have HP : Hid (EscPost t w (.returned (.tuple #[.int .i64 0, .string ⟨#[]⟩, .int .i64 2])) w) := Lib.hid (by
      unfold EscPost
      rw [show esc t = .err 2 [] by match t, h2 with | [], _ => rfl | [c], _ => rfl]
      exact ⟨0, rfl, rfl⟩)
    have h2' : (t.length : Int) < 2 := by omega
    clear h2
    go_enter Tryz.func149, Tryz.ntmps149
    go_wp2
    go_ret3
    exact HP.out
  · have h2' : ¬ (t.length : Int) < 2 := by omega
    have hidx : ∀ w, (Instr.index 9 (.string ⟨t.toArray⟩) (.int .i64 1)).run Tryz.prog w = .ok (.int .u8 (t.getD 1 0).toNat) w := run_index_list Tryz.underlying9 t 1 (by omega)
    obtain ⟨a, c, r, ht⟩ : ∃ a c r, t = a :: c :: r := by
      match t, h2 with
      | a :: c :: r, _ => exact ⟨a, c, r, rfl⟩
      | [], h => simp at h
      | [_], h => simp at h
    have hg : t.getD 1 0 = c := by rw [ht]; rfl
    rw [hg] at hidx
    have HI := Lib.hid (index_any escF c)
    unfold escF at HI
    rw [show Lib.indexByte [34, 92, 47, 98, 102, 110, 114, 116] c = Lib.indexByte escF c from rfl] at HI
    have he := esc_idx c
    cases hsm : simple c with
    | some b =>
      obtain ⟨i, hi, hi8, hsl⟩ := he.2 b hsm
      rw [hi] at HI
      have hsc := fun wx => run_slice_list Tryz.underlying9 escT .i64 .i64 (i : Int) ((i : Int) + 1) i (i + 1) rfl (by omega) (by omega) (by simp [escT]; omega) wx
      rw [show i + 1 - i = 1 by omega, hsl] at hsc
      unfold escT at hsc
      have HP : Hid (∀ k, EscPost t w (.returned (.tuple #[.int .i64 2, .string ⟨#[b]⟩, .int .i64 0])) (w.drewN k)) := Lib.hid (by
        intro k
        unfold EscPost
        rw [show esc t = .emit [b] r by rw [ht]; unfold esc; simp only [hsm]]
        exact ⟨2, k, rfl, by rw [ht]; rfl, Nat.le_refl _, by omega, rfl⟩)
      have p1 : (0 : Int) ≤ i := by omega
      clear he hsm hi hsl ht hg h2
      go_enter Tryz.func149, Tryz.ntmps149
      go_wp2_with fail
      refine (HI.out _).mono ?_
      rintro x w1 ⟨rfl, rfl⟩
      go_wp2_with fail
      go_quiet (fail)
      go_wp2
      go_ret3
      exact HP.out _
    | none =>
      rw [he.1 hsm] at HI
      have HE : Hid (esc t = esc1 t) := Lib.hid (by rw [ht]; unfold esc; simp only [hsm])
      have HU := Lib.hid (unit_any t hs)
      clear he hsm ht hg
      cases hu : unit t with
      | bad =>
        have HP : Hid (EscPost t w (.returned (.tuple #[.int .i64 0, .string ⟨#[]⟩, .int .i64 4])) w) := Lib.hid (by
          unfold EscPost; rw [HE.out]; unfold esc1; rw [hu]; exact ⟨0, rfl, rfl⟩)
        rw [hu] at HU
        clear hu HE
        go_enter Tryz.func149, Tryz.ntmps149
        go_wp2_with fail
        refine (HI.out _).mono ?_
        rintro x w1 ⟨rfl, rfl⟩
        go_wp2_with fail
        refine (HU.out _).mono ?_
        rintro x w1 ⟨n, rfl, rfl⟩
        go_wp2
        go_ret3
        exact HP.out
      | short =>
        have HP : Hid (EscPost t w (.returned (.tuple #[.int .i64 0, .string ⟨#[]⟩, .int .i64 2])) w) := Lib.hid (by
          unfold EscPost; rw [HE.out]; unfold esc1; rw [hu]; exact ⟨0, rfl, rfl⟩)
        rw [hu] at HU
        clear hu HE
        go_enter Tryz.func149, Tryz.ntmps149
        go_wp2_with fail
        refine (HI.out _).mono ?_
        rintro x w1 ⟨rfl, rfl⟩
        go_wp2_with fail
        refine (HU.out _).mono ?_
        rintro x w1 ⟨v, n, hn, rfl, rfl⟩
        have hn6 : (n : Int) < 6 := by omega
        go_wp2
        go_ret3
        exact HP.out
      | val v =>
        obtain ⟨h6, hv⟩ := unit_val hu
        by_cases hr1 : v < 55296 ∨ 57343 < v
        · have hcv := encode_utf8 (show v < 1114112 by omega) hr1
          have HP : Hid (EscPost t w (.returned (.tuple #[.int .i64 6, .string ⟨(utf8 v).toArray⟩, .int .i64 0])) w) := Lib.hid (by
            unfold EscPost; rw [HE.out]; unfold esc1; rw [hu]; simp only; rw [if_pos hr1]
            exact ⟨6, 0, rfl, rfl, by omega, h6, rfl⟩)
          rw [hu] at HU
          generalize utf8 v = bs at hcv HP
          clear hu HE
          by_cases hlo : (v : Int) < 55296
          · clear hr1
            go_enter Tryz.func149, Tryz.ntmps149
            go_wp2_with fail
            refine (HI.out _).mono ?_
            rintro x w1 ⟨rfl, rfl⟩
            go_wp2_with fail
            refine (HU.out _).mono ?_
            rintro x w1 ⟨rfl, rfl⟩
            go_wp2
            go_ret3
            exact HP.out
          · have hhi : (57343 : Int) < v := by omega
            clear hr1
            go_enter Tryz.func149, Tryz.ntmps149
            go_wp2_with fail
            refine (HI.out _).mono ?_
            rintro x w1 ⟨rfl, rfl⟩
            go_wp2_with fail
            refine (HU.out _).mono ?_
            rintro x w1 ⟨rfl, rfl⟩
            go_wp2
            go_ret3
            exact HP.out
        · have q1 : ((v : Int) < 55296) = False := eq_false (by omega)
          have q2 : ((57343 : Int) < v) = False := eq_false (by omega)
          by_cases hlow : 56320 ≤ v
          · have q3 : ((56320 : Int) ≤ v) = True := eq_true (by omega)
            have HP : Hid (EscPost t w (.returned (.tuple #[.int .i64 0, .string ⟨#[]⟩, .int .i64 4])) w) := Lib.hid (by
              unfold EscPost; rw [HE.out]; unfold esc1; rw [hu]; simp only; rw [if_neg hr1, if_pos hlow]
              exact ⟨0, rfl, rfl⟩)
            rw [hu] at HU
            clear hu HE hr1 hlow
            go_enter Tryz.func149, Tryz.ntmps149
            go_wp2_with fail
            refine (HI.out _).mono ?_
            rintro x w1 ⟨rfl, rfl⟩
            go_wp2_with fail
            refine (HU.out _).mono ?_
            rintro x w1 ⟨rfl, rfl⟩
            go_wp2
            go_ret3
            exact HP.out
          · have q3 : ((56320 : Int) ≤ v) = False := eq_false (by omega)
            have HE2 : Hid (esc t = esc2 t v) := Lib.hid (by rw [HE.out]; unfold esc1; rw [hu]; simp only; rw [if_neg hr1, if_neg hlow])
            have hsl := fun wx => run_slice_from_list Tryz.underlying9 t .i64 (6 : Int) 6 rfl h6 wx
            have HV := Lib.hid (unit_any (t.drop 6) (by rw [List.length_drop]; omega))
            rw [hu] at HU
            clear hu HE
            cases hx : unit (t.drop 6) with
            | bad =>
              have HP : Hid (EscPost t w (.returned (.tuple #[.int .i64 0, .string ⟨#[]⟩, .int .i64 4])) w) := Lib.hid (by
                unfold EscPost; rw [HE2.out]; unfold esc2; rw [hx]; exact ⟨0, rfl, rfl⟩)
              rw [hx] at HV
              clear hx HE2 hr1 hlow
              generalize t.drop 6 = t6 at hsl HV
              go_enter Tryz.func149, Tryz.ntmps149
              go_wp2_with fail
              refine (HI.out _).mono ?_
              rintro x w1 ⟨rfl, rfl⟩
              go_wp2_with fail
              refine (HU.out _).mono ?_
              rintro x w1 ⟨rfl, rfl⟩
              go_wp2_with fail
              refine (HV.out _).mono ?_
              rintro x w1 ⟨n, rfl, rfl⟩
              go_wp2
              go_ret3
              exact HP.out
            | short =>
              have HP : Hid (EscPost t w (.returned (.tuple #[.int .i64 0, .string ⟨#[]⟩, .int .i64 2])) w) := Lib.hid (by
                unfold EscPost; rw [HE2.out]; unfold esc2; rw [hx]; exact ⟨0, rfl, rfl⟩)
              rw [hx] at HV
              clear hx HE2 hr1 hlow
              generalize t.drop 6 = t6 at hsl HV
              go_enter Tryz.func149, Tryz.ntmps149
              go_wp2_with fail
              refine (HI.out _).mono ?_
              rintro x w1 ⟨rfl, rfl⟩
              go_wp2_with fail
              refine (HU.out _).mono ?_
              rintro x w1 ⟨rfl, rfl⟩
              go_wp2_with fail
              refine (HV.out _).mono ?_
              rintro x w1 ⟨y, n, hn, rfl, rfl⟩
              have hn6 : (n : Int) < 6 := by omega
              go_wp2
              go_ret3
              exact HP.out
            | val y =>
              obtain ⟨h12, hy⟩ := unit_val hx
              rw [List.length_drop] at h12
              by_cases hr2 : 56320 ≤ y ∧ y ≤ 57343
              · obtain ⟨z, hz⟩ : ∃ z, z = 65536 + (v - 55296) * 1024 + (y - 56320) := ⟨_, rfl⟩
                have hcv := encode_utf8 (show z < 1114112 by omega) (.inr (by omega))
                have HP : Hid (EscPost t w (.returned (.tuple #[.int .i64 12, .string ⟨(utf8 z).toArray⟩, .int .i64 0])) w) := Lib.hid (by
                  unfold EscPost; rw [HE2.out]; unfold esc2; rw [hx]; simp only; rw [if_pos hr2, ← hz]
                  exact ⟨12, 0, rfl, rfl, by omega, by omega, rfl⟩)
                have e0 : IntKind.i32.wrap ((v : Int) - 55296) = ((v - 55296 : Nat) : Int) := by rw [wrap_i32 (by omega) (by omega)]; omega
                have e1 : IntKind.i32.wrap (((v - 55296 : Nat) : Int) * 1024) = (((v - 55296) * 1024 : Nat) : Int) := by rw [wrap_i32 (by omega) (by omega)]; omega
                have e2 : IntKind.i32.wrap ((y : Int) - 56320) = ((y - 56320 : Nat) : Int) := by rw [wrap_i32 (by omega) (by omega)]; omega
                have e3 : IntKind.i32.wrap ((((v - 55296) * 1024 : Nat) : Int) + ((y - 56320 : Nat) : Int)) = (((v - 55296) * 1024 + (y - 56320) : Nat) : Int) := by rw [wrap_i32 (by omega) (by omega)]; omega
                have e4 : IntKind.i32.wrap ((((v - 55296) * 1024 + (y - 56320) : Nat) : Int) + 65536) = (z : Int) := by rw [wrap_i32 (by omega) (by omega)]; omega
                rw [hx] at HV
                generalize utf8 z = bs at hcv HP
                have p1 : ((y : Int) < 56320) = False := eq_false (by omega)
                have p2 : ((57343 : Int) < y) = False := eq_false (by omega)
                clear hx HE2 hr1 hlow hr2 hz
                generalize t.drop 6 = t6 at hsl HV
                generalize (v - 55296) * 1024 + (y - 56320) = z3 at e3 e4
                generalize (v - 55296) * 1024 = z1 at e1 e3
                generalize v - 55296 = z0 at e0 e1
                generalize y - 56320 = z2 at e2 e3
                go_enter Tryz.func149, Tryz.ntmps149
                go_wp2_with fail
                refine (HI.out _).mono ?_
                rintro x w1 ⟨rfl, rfl⟩
                go_wp2_with fail
                refine (HU.out _).mono ?_
                rintro x w1 ⟨rfl, rfl⟩
                go_wp2_with fail
                refine (HV.out _).mono ?_
                rintro x w1 ⟨rfl, rfl⟩
                go_wp2
                go_ret3
                exact HP.out
              · have HP : Hid (EscPost t w (.returned (.tuple #[.int .i64 0, .string ⟨#[]⟩, .int .i64 4])) w) := Lib.hid (by
                  unfold EscPost; rw [HE2.out]; unfold esc2; rw [hx]; simp only; rw [if_neg hr2]; exact ⟨0, rfl, rfl⟩)
                rw [hx] at HV
                by_cases p1' : (y : Int) < 56320
                · have p1 : ((y : Int) < 56320) = True := eq_true p1'
                  clear p1'
                  clear hx HE2 hr1 hlow hr2
                  generalize t.drop 6 = t6 at hsl HV
                  go_enter Tryz.func149, Tryz.ntmps149
                  go_wp2_with fail
                  refine (HI.out _).mono ?_
                  rintro x w1 ⟨rfl, rfl⟩
                  go_wp2_with fail
                  refine (HU.out _).mono ?_
                  rintro x w1 ⟨rfl, rfl⟩
                  go_wp2_with fail
                  refine (HV.out _).mono ?_
                  rintro x w1 ⟨rfl, rfl⟩
                  go_wp2
                  go_ret3
                  exact HP.out
                · have p1 : ((y : Int) < 56320) = False := eq_false p1'
                  have p2 : ((57343 : Int) < y) = True := eq_true (by omega)
                  clear p1'
                  clear hx HE2 hr1 hlow hr2
                  generalize t.drop 6 = t6 at hsl HV
                  go_enter Tryz.func149, Tryz.ntmps149
                  go_wp2_with fail
                  refine (HI.out _).mono ?_
                  rintro x w1 ⟨rfl, rfl⟩
                  go_wp2_with fail
                  refine (HU.out _).mono ?_
                  rintro x w1 ⟨rfl, rfl⟩
                  go_wp2_with fail
                  refine (HV.out _).mono ?_
                  rintro x w1 ⟨rfl, rfl⟩
                  go_wp2
                  go_ret3
                  exact HP.out
-- >
end Js
end Go.Proofs.YtlfeddgpfaigkaaGreatDoor
