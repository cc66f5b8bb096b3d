/-
  Parts of the proof: CfIm.
-/
import Derived.Test.YtjohdaobhonioaaGreatDoorPkFo31
import Derived.Test.YtjohdaobhonioaaGreatDoorPkFo33
namespace Go.Proofs.YtjohdaobhonioaaGreatDoor
open Go.RowKit
namespace Js.Cf
theorem mem_texts {i : Img} {s : B} (h : s ∈ textsI i) (hs : sizeT (textsI i) ≤ 1099511627775) : s.length ≤ 1099511627775 := Nat.le_trans (sizeT_mem h) hs
theorem fok_texts {l : List B} (h : ∀ s ∈ l, s.length ≤ 4398046511104) : Fok (tTexts l) := fok_L fun v hv => by
 obtain ⟨s, hs, rfl⟩ := List.mem_map.1 hv
 exact fok_T (h s hs)
theorem fok_img {i : Img} (hs : sizeT (textsI i) ≤ 1099511627775) (hd : ∀ d ∈ i.diffs, d.length = 32) : Fok (imgT i) := by
 have hm : ∀ s ∈ textsI i, s.length ≤ 4398046511104 := fun s h => Nat.le_trans (mem_texts h hs) (by decide)
 have hk : ∀ k ∈ [kCmd, kEntry, kEnv, kPorts, kLabels, kUser, kDir, kBy, kEmpty, kArch, kOs, kCfg, kHist, kRoot, kType, kDiffs], k.length ≤ 4398046511104 := by decide
 have hpair : ∀ {l : List (B × B)} {p : B × B}, p ∈ l -> p.1 ∈ flatP l /\ p.2 ∈ flatP l := fun h => ⟨List.mem_flatMap.2 ⟨_, h, by simp⟩, List.mem_flatMap.2 ⟨_, h, by simp⟩⟩
 have hcfg : Fok (cfgT i.cfg) := by
   have e1 : ∀ q ∈ cfgM i.cfg, q.1.length ≤ 4398046511104 /\ Fok q.2 := by
     intro q hq
     unfold cfgM at hq
     simp only [List.mem_append] at hq
     rcases hq with hq | hq | hq | hq | hq | hq | hq
     . split at hq
       . cases hq
       . obtain rfl := List.mem_singleton.1 hq
         exact ⟨hk _ (by simp), fok_texts fun s h => hm s (by simp [textsI, h])⟩
     . split at hq
       . cases hq
       . obtain rfl := List.mem_singleton.1 hq
         exact ⟨hk _ (by simp), fok_texts fun s h => hm s (by simp [textsI, h])⟩
     . split at hq
       . cases hq
       . obtain rfl := List.mem_singleton.1 hq
         refine ⟨hk _ (by simp), fok_texts fun s h => ?_⟩
         obtain ⟨p, hp, rfl⟩ := List.mem_map.1 h
         have h1 := mem_texts (i := i) (s := p.1) (by simp [textsI, (hpair hp).1]) hs
         have h2 := mem_texts (i := i) (s := p.2) (by simp [textsI, (hpair hp).2]) hs
         unfold envB
         rw [List.length_append, List.length_cons]; omega
     . split at hq
       . cases hq
       . obtain rfl := List.mem_singleton.1 hq
         refine ⟨hk _ (by simp), fok_O (fun p hp => ?_) (fun p hp => ?_)⟩
         . obtain ⟨s, h, rfl⟩ := List.mem_map.1 hp
           exact hm s (by simp [textsI, h])
         . obtain ⟨s, h, rfl⟩ := List.mem_map.1 hp
           exact fok_O (by simp) (by simp)
     . split at hq
       . cases hq
       . obtain rfl := List.mem_singleton.1 hq
         refine ⟨hk _ (by simp), fok_O (fun p hp => ?_) (fun p hp => ?_)⟩
         . obtain ⟨s, h, rfl⟩ := List.mem_map.1 hp
           exact hm _ (by simp [textsI, (hpair h).1])
         . obtain ⟨s, h, rfl⟩ := List.mem_map.1 hp
           exact fok_T (hm _ (by simp [textsI, (hpair h).2]))
     . split at hq
       . cases hq
       . obtain rfl := List.mem_singleton.1 hq
         exact ⟨hk _ (by simp), fok_T (hm _ (by simp [textsI]))⟩
     . obtain rfl := List.mem_singleton.1 hq
       exact ⟨hk _ (by simp), fok_T (hm _ (by simp [textsI]))⟩
   exact fok_O (fun q hq => (e1 q hq).1) (fun q hq => (e1 q hq).2)
 have hpast : ∀ v ∈ i.past.map pastT, Fok v := by
   intro v hv
   obtain ⟨p, hp, rfl⟩ := List.mem_map.1 hv
   have hb : p.1.length ≤ 4398046511104 := hm _ (by simp only [textsI, List.mem_append]; exact .inr (.inr (.inr (.inr (.inr (.inr (List.mem_map_of_mem hp)))))))
   unfold pastT
   refine fok_O (fun q hq => ?_) (fun q hq => ?_)
   . rcases List.mem_cons.1 hq with rfl | hq
     . exact hk _ (by simp)
     . split at hq
       . obtain rfl := List.mem_singleton.1 hq; exact hk _ (by simp)
       . cases hq
   . rcases List.mem_cons.1 hq with rfl | hq
     . exact fok_T hb
     . split at hq
       . obtain rfl := List.mem_singleton.1 hq
         exact ⟨⟨⟨by simp [tTrue, plainH], by simp [tTrue, plainH]⟩, by simp [NumOk, tTrue, plainH]⟩, trivial⟩
       . cases hq
 have hroot : Fok (rootT i) := by
   refine fok_O (fun q hq => ?_) (fun q hq => ?_)
   . simp only [List.mem_cons, List.not_mem_nil, or_false] at hq
     rcases hq with rfl | rfl <;> exact hk _ (by simp)
   . simp only [List.mem_cons, List.not_mem_nil, or_false] at hq
     rcases hq with rfl | rfl
     . exact fok_T (by decide)
     . refine fok_texts fun s h => ?_
       obtain ⟨d, hdm, rfl⟩ := List.mem_map.1 h
       rw [Plain.digText_length, hd d hdm]; decide
 refine fok_O (fun q hq => ?_) (fun q hq => ?_)
 . simp only [List.mem_cons, List.not_mem_nil, or_false] at hq
   rcases hq with rfl | rfl | rfl | rfl | rfl <;> exact hk _ (by simp)
 . simp only [List.mem_cons, List.not_mem_nil, or_false] at hq
   rcases hq with rfl | rfl | rfl | rfl | rfl
   . exact fok_T (by decide)
   . exact fok_T (by decide)
   . exact hcfg
   . exact fok_L hpast
   . exact hroot
theorem imgP_no {i : Img} (h : w0 i ≠ 0) : imgP i = ([], w0 i) := by unfold imgP; rw [if_pos h]
theorem imgP_yes {i : Img} (h : w0 i = 0) : imgP i = printed (imgT i).1 (imgT i).2 := by unfold imgP; rw [if_neg (by rw [h]; simp)]
theorem OS.tv {wc wr : World} {ob Bn : Nat} {Q : Nat -> Prop} {l : List (B × V)} {iv kv : Value} (h : OS wc wr ob Bn Q l iv kv) (hl : l.length ≤ 4398046511104) :
   ∃ S, TV encJ wr S (tO l).1 (tO l).2 (jcells (tO l).1 iv kv) /\ ∀ b, S b -> (Q b ∨ Bn ≤ b) /\ b < wr.heap.size := by
 obtain ⟨S, vs, ho, hp, hS⟩ := h.hk.items
 have hk := h.hk.keys
 obtain ⟨A1, c1, e1, r1⟩ := RdS.of_own hk
 obtain ⟨A2, c2, e2, r2⟩ := RdS.of_own ho
 refine ⟨fun b => S b ∨ (kv.ownBlock = some b ∨ iv.ownBlock = some b), ⟨A2, c2, A1, c1, vs, ?_, ?_, ⟨?_, fun h => by cases h⟩, r2.more fun b hb => .inr (.inr hb), hp.more fun b hb => .inl hb, r1.more fun b hb => .inr (.inl hb)⟩, fun b hb => ?_⟩
 . rw [e1, e2]; rfl
 . show (ofL (l.map Prod.snd)).len ≤ _
   rw [ofL_len, List.length_map]; exact hl
 . show (l.map Prod.fst).length ≤ _
   rw [List.length_map]; exact hl
 . rcases hb with hb | hb | hb
   . exact ⟨.inl (hS b hb).1, (hS b hb).2.1⟩
   . exact ⟨.inr (Js.own_lt hk hb).1, (Js.own_lt hk hb).2⟩
   . exact ⟨.inr (Js.own_lt ho hb).1, (Js.own_lt ho hb).2⟩
theorem os_put_true {wc wr : World} {ob Bn : Nat} {Q : Nat -> Prop} {l : List (B × V)} {iv kv : Value} (h : OS wc wr ob Bn Q l iv kv) (hl : l.length ≤ 1099511627776) (key : B) :
  Calls Tryz.prog 38 #[.pointer (some ⟨ob, 0, none⟩), .string ⟨key.toArray⟩, .agg #[.int .i64 2, .int .i64 0, .string ⟨#[]⟩, .slice none 0 0, .slice none 0 0]] wr fun x w' => x = .returned (.tuple #[]) /\ wr.heap.size ≤ w'.heap.size /\ ∃ iv' kv', OS wc w' ob Bn Q (l ++ [(key, tTrue)]) iv' kv' :=
 os_put h hl key tTrue _ _ (fun _ => False) ⟨none, 0, none, 0, [], rfl, by simp [tTrue, F.len], ⟨by simp [tTrue, plainH], fun h => by cases h⟩, RdS.none_, rfl, RdS.none_⟩ (fun b h => h.elim)
end Js.Cf
end Go.Proofs.YtjohdaobhonioaaGreatDoor
