/- The plain law of IntentMatchesSpec: what the calls leave is what the specification says. -/
import Derived.Test.YtlfolinjajjgjaaDoorA4
import Derived.Test.YtlfolinjajjgjaaDoorN4
namespace Go.Proofs.YtlfolinjajjgjaaDoor
open Go.E

theorem slotsN_fm (LS : List (List Nat)) (from_ : Nat) : ∀ n, slotsN LS from_ n = (List.range n).flatMap fun i => slotOf i (LS.getD (from_ + i) [])
  | 0 => rfl
  | n + 1 => by
    rw [List.range_succ, List.flatMap_append, ← slotsN_fm LS from_ n]
    show slotsN LS from_ n ++ slotOf n (LS.getD (from_ + n) []) = _
    simp

def ownW (owner : Int) (ws : List Nat) : Bool := decide (ws.getD 0 0 ≠ 0) && decide ((ws.getD 0 0 : Int) = owner)

theorem each_get {LS : List (List Nat)} {from_ n : Nat} (hfit : from_ + n ≤ LS.length) (owner : Int) (prs : List (Nat × Nat)) : ∀ m, m ≤ n → ∀ i,
    (eachF from_ owner prs LS (slotsN LS from_ m)).getD i [] = if (from_ ≤ i ∧ i < from_ + m) ∧ ownW owner (LS.getD i []) = true then lay (LS.getD i []) prs else LS.getD i []
  | 0, _, i => by rw [if_neg (by omega)]; rfl
  | m + 1, hm, i => by
    have ih := each_get hfit owner prs m (by omega)
    show (eachF from_ owner prs LS (slotsN LS from_ m ++ slotOf m (LS.getD (from_ + m) []))).getD i [] = _
    unfold slotOf
    by_cases h0 : (LS.getD (from_ + m) []).getD 0 0 = 0
    · rw [if_pos h0, List.append_nil, ih]
      by_cases hi : i = from_ + m
      · subst hi
        have : ownW owner (LS.getD (from_ + m) []) = false := by unfold ownW; rw [h0]; rfl
        rw [if_neg (by omega), if_neg (by rw [this]; simp)]
      · have : (from_ ≤ i ∧ i < from_ + m) ↔ (from_ ≤ i ∧ i < from_ + (m + 1)) := by omega
        simp only [this]
    · rw [if_neg h0, eachF_snoc]
      have hl : from_ + m < (eachF from_ owner prs LS (slotsN LS from_ m)).length := by rw [eachF_len]; omega
      by_cases ho : (((LS.getD (from_ + m) []).getD 0 0 : Nat) : Int) = owner
      · rw [if_pos ho, getD_set hl]
        by_cases hi : i = from_ + m
        · subst hi
          have : ownW owner (LS.getD (from_ + m) []) = true := by unfold ownW; rw [decide_eq_true h0, decide_eq_true ho]; rfl
          rw [if_pos rfl, if_pos ⟨by omega, this⟩]
          simp only
          rw [ih, if_neg (by omega)]
        · have : (from_ ≤ i ∧ i < from_ + m) ↔ (from_ ≤ i ∧ i < from_ + (m + 1)) := by omega
          rw [if_neg hi, ih]
          simp only [this]
      · rw [if_neg ho, ih]
        by_cases hi : i = from_ + m
        · subst hi
          have : ownW owner (LS.getD (from_ + m) []) = false := by unfold ownW; rw [decide_eq_false ho, Bool.and_false]
          rw [if_neg (by omega), if_neg (by rw [this]; simp)]
        · have : (from_ ≤ i ∧ i < from_ + m) ↔ (from_ ≤ i ∧ i < from_ + (m + 1)) := by omega
          simp only [this]

theorem flatMap_cong {α β : Type} {f g : α → List β} : ∀ {l : List α}, (∀ a ∈ l, f a = g a) → l.flatMap f = l.flatMap g
  | [], _ => rfl
  | x :: r, h => by rw [List.flatMap_cons, List.flatMap_cons, h x (by simp), flatMap_cong fun a ha => h a (by simp [ha])]

theorem close_slot (owner : Int) (i : Nat) (ws : List Nat) : slotOf i (if ownW owner ws = true then lay ws [(0, 0)] else ws) = (slotOf i ws).filter fun s => !decide ((s.owner : Int) = owner) := by
  unfold ownW slotOf
  by_cases h0 : ws.getD 0 0 = 0
  · have : (decide (ws.getD 0 0 ≠ 0) : Bool) = false := decide_eq_false (fun h => h h0)
    rw [this, Bool.false_and]
    simp only [Bool.false_eq_true, if_false, if_pos h0]
    rfl
  · by_cases ho : ((ws.getD 0 0 : Nat) : Int) = owner
    · rw [if_neg h0, decide_eq_true h0, decide_eq_true ho]
      cases ws with
      | nil => exact absurd rfl h0
      | cons a r =>
        have ho' : ((a : Nat) : Int) = owner := ho
        simp [lay, ho']
    · rw [if_neg h0, decide_eq_false ho, Bool.and_false]
      simp only [Bool.false_eq_true, if_false, if_neg h0]
      rw [List.filter_cons_of_pos (by simpa using ho)]
      rfl

theorem stamp_slot (owner : Int) (st i : Nat) (ws : List Nat) (h8 : ws.length = 8) : slotOf i (if ownW owner ws = true then lay ws [(1, st)] else ws) = (slotOf i ws).map (stampS owner st) := by
  unfold ownW slotOf stampS
  match ws, h8 with
  | [a, b, c, d, e, f, g, h], _ =>
    by_cases h0 : a = 0
    · simp [h0]
    · by_cases ho : ((a : Nat) : Int) = owner
      · simp [h0, ho, lay, blocksOf]
      · simp [h0, ho]

theorem closed_law {LS : List (List Nat)} {from_ n : Nat} (hfit : from_ + n ≤ LS.length) (owner : Int) : slotsN (closeF from_ n LS owner).2 from_ n = keepF (slotsN LS from_ n) owner := by
  show slotsN (eachF from_ owner [(0, 0)] LS (slotsN LS from_ n)) from_ n = _
  rw [slotsN_fm]
  unfold keepF
  rw [slotsN_fm LS, List.filter_flatMap]
  refine flatMap_cong fun i hi => ?_
  have hi := List.mem_range.1 hi
  rw [← slotsN_fm LS, each_get hfit owner _ n (Nat.le_refl _), ← close_slot]
  congr 1
  have : (from_ ≤ from_ + i ∧ from_ + i < from_ + n) := by omega
  simp only [this, true_and]

theorem stamped_law {LS : List (List Nat)} {from_ n : Nat} (hfit : from_ + n ≤ LS.length) (h8 : ∀ ws ∈ LS, ws.length = 8) (owner : Int) (st : Nat) : slotsN (eachF from_ owner [(1, st)] LS (slotsN LS from_ n)) from_ n = (slotsN LS from_ n).map (stampS owner st) := by
  rw [slotsN_fm, slotsN_fm LS, List.map_flatMap]
  refine flatMap_cong fun i hi => ?_
  have hi := List.mem_range.1 hi
  have hl : (LS.getD (from_ + i) []).length = 8 := by
    rw [List.getD_eq_getElem?_getD, List.getElem?_eq_getElem (by omega)]
    exact h8 _ (List.getElem_mem _)
  rw [← slotsN_fm LS, each_get hfit owner _ n (Nat.le_refl _), ← stamp_slot owner st i _ hl]
  congr 1
  have : (from_ ≤ from_ + i ∧ from_ + i < from_ + n) := by omega
  simp only [this, true_and]

/-- No slot has the owner: nothing happens. -/
theorem each_none {from_ : Nat} {owner : Int} {prs : List (Nat × Nat)} : ∀ {S : List Sl} {LS : List (List Nat)}, S.any (fun s => decide ((s.owner : Int) = owner)) = false → eachF from_ owner prs LS S = LS
  | [], LS, _ => rfl
  | s :: r, LS, h => by
    rw [List.any_cons, Bool.or_eq_false_iff] at h
    show eachF from_ owner prs (if (s.owner : Int) = owner then _ else LS) r = LS
    rw [if_neg (of_decide_eq_false h.1), each_none h.2]

theorem slot_slot {k : Nat} {ws : List Nat} {s : Sl} (h : s ∈ slotOf k ws) : s.slot = k := by
  unfold slotOf at h
  split at h
  · cases h
  · simp at h; rw [h]

theorem slots_at {LS : List (List Nat)} {from_ n k : Nat} (hfit : from_ + n ≤ LS.length) (hk : k < n) : ∃ A B : List Sl, (∀ s ∈ A, s.slot < k) ∧ (∀ s ∈ B, k < s.slot) ∧ slotsN LS from_ n = A ++ (slotOf k (LS.getD (from_ + k) []) ++ B) ∧
    ∀ ws, slotsN (LS.set (from_ + k) ws) from_ n = A ++ (slotOf k ws ++ B) := by
  have hr := range_split k n hk
  refine ⟨(List.range k).flatMap (fun i => slotOf i (LS.getD (from_ + i) [])), (List.range' (k + 1) (n - k - 1)).flatMap (fun i => slotOf i (LS.getD (from_ + i) [])), fun s hs => ?_, fun s hs => ?_, ?_, fun ws => ?_⟩
  · obtain ⟨i, hi, hs⟩ := List.mem_flatMap.1 hs
    rw [slot_slot hs]; exact List.mem_range.1 hi
  · obtain ⟨i, hi, hs⟩ := List.mem_flatMap.1 hs
    rw [slot_slot hs]
    rw [List.mem_range'_1] at hi
    omega
  · rw [slotsN_fm, hr, List.flatMap_append, List.flatMap_cons]
  · rw [slotsN_fm, hr, List.flatMap_append, List.flatMap_cons]
    congr 1
    · refine flatMap_cong fun i hi => ?_
      have := List.mem_range.1 hi
      rw [getD_set (by omega), if_neg (by omega)]
    · congr 1
      · rw [getD_set (by omega), if_pos rfl]
      · refine flatMap_cong fun i hi => ?_
        rw [List.mem_range'_1] at hi
        rw [getD_set (by omega), if_neg (by omega)]

theorem insG_front {S : List Sl} {x : Sl} (h : ∀ s ∈ S, x.slot < s.slot) : insG (·.slot) x S = x :: S := by
  cases S with
  | nil => rfl
  | cons s r =>
    show (if x.slot < s.slot then _ else _) = _
    rw [if_pos (h s (by simp))]

set_option maxHeartbeats 1000000 in
theorem added_law {LS : List (List Nat)} {from_ n : Nat} (h : LI LS from_ n) (owner x : Int) : (addF from_ n LS owner x).1 = (refAdded (slotsN LS from_ n) n owner x).1 ∧
    slotsN (addF from_ n LS owner x).2 from_ n = if (refAdded (slotsN LS from_ n) n owner x).1 = 0 then (refAdded (slotsN LS from_ n) n owner x).2 else slotsN LS from_ n := by
  have hfit := h.fit
  unfold addF refAdded
  split
  · exact ⟨rfl, rfl⟩
  rename_i hbad
  split
  · exact ⟨rfl, rfl⟩
  rename_i htw
  split
  · exact ⟨rfl, rfl⟩
  have hbad' : badA owner x = false := by simpa using hbad
  unfold badA at hbad'
  rw [Bool.or_eq_false_iff] at hbad'
  have hd := of_decide_eq_false hbad'.1
  have hr : rightP x = true := by simpa using hbad'.2
  obtain ⟨ow, rfl⟩ := Int.eq_ofNat_of_zero_le (show 0 ≤ owner by omega)
  have hx0 : 0 ≤ x := by
    unfold rightP at hr
    have := of_decide_eq_true hr
    omega
  obtain ⟨pp, rfl⟩ := Int.eq_ofNat_of_zero_le hx0
  have hpp : pp ≠ 0 := by omega
  unfold openA
  cases hfi : (slotsN LS from_ n).findIdx? (roomA ((ow : Nat) : Int)) with
  | some a =>
    simp only [if_true]
    refine ⟨trivial, ?_⟩
    obtain ⟨ha, hroom, _⟩ := List.findIdx?_eq_some_iff_getElem.1 hfi
    obtain ⟨s, hs⟩ : ∃ s, s = (slotsN LS from_ n).getD a ⟨0, 0, 0, []⟩ := ⟨_, rfl⟩
    have hsg : (slotsN LS from_ n)[a] = s := by rw [hs, List.getD_eq_getElem?_getD, List.getElem?_eq_getElem ha]; rfl
    rw [← hs]
    rw [hsg] at hroom
    have hsm : s ∈ slotsN LS from_ n := by rw [← hsg]; exact List.getElem_mem ha
    have hk := slotsN_lt hsm
    have hof := slotsN_of hsm
    unfold roomA at hroom
    simp only [Bool.and_eq_true, decide_eq_true_eq] at hroom
    obtain ⟨A, B, hA, hB, hS, hset⟩ := slots_at (LS := LS) (from_ := from_) hfit hk
    have h8 := line_len h hk
    have ht := h.tail s.slot hk
    obtain ⟨ws, hws⟩ : ∃ ws, ws = LS.getD (from_ + s.slot) [] := ⟨_, rfl⟩
    rw [← hws] at h8 ht hof hS ⊢
    rw [hof] at hS
    rw [hset]
    have haA : a = A.length := by
      have hsa : (slotsN LS from_ n)[a]? = some s := by rw [List.getElem?_eq_getElem ha, hsg]
      rw [hS] at hsa
      rcases Nat.lt_trichotomy a A.length with hlt | heq | hgt
      · rw [List.getElem?_append_left hlt] at hsa
        have := hA s (List.mem_of_getElem? hsa)
        omega
      · exact heq
      · rw [List.getElem?_append_right (by omega), List.getElem?_append_right (by simp; omega)] at hsa
        have := hB s (List.mem_of_getElem? hsa)
        omega
    have h0 : ws.getD 0 0 ≠ 0 := fun e => by
      unfold slotOf at hof
      rw [if_pos e] at hof
      cases hof
    have hse : s = ⟨s.slot, ws.getD 0 0, ws.getD 1 0, blocksOf ws⟩ := by
      unfold slotOf at hof
      rw [if_neg h0] at hof
      exact (List.cons.inj hof).1.symm
    have hbl : s.blocks = blocksOf ws := by rw [hse]
    have ht := ht h0
    obtain ⟨m, hm⟩ : ∃ m, m = (blocksOf ws).length := ⟨_, rfl⟩
    have hm6 : m < 6 := by rw [hm, ← hbl]; exact hroom.2
    rw [hbl, ← hm]
    rw [← hm] at ht
    have hd : (ws.set (2 + m) pp).drop 2 = blocksOf ws ++ pp :: List.replicate (5 - m) 0 := by
      rw [List.drop_set, if_neg (by omega), ht, Nat.add_sub_cancel_left, List.set_append, if_neg (by omega), ← hm, Nat.sub_self]
      have : 6 - m = (5 - m) + 1 := by omega
      rw [this, List.replicate_succ, List.set_cons_zero]
    have hbn : ∀ y ∈ blocksOf ws, (y != 0) = true := fun y hy => List.all_eq_true.1 (List.all_takeWhile (p := fun x : Nat => x != 0) (l := ws.drop 2)) y hy
    have hnew : blocksOf (ws.set (2 + m) pp) = blocksOf ws ++ [pp] := by
      show ((ws.set (2 + m) pp).drop 2).takeWhile _ = _
      rw [hd, List.takeWhile_append_of_pos hbn, List.takeWhile_cons]
      have : (pp != 0) = true := by simpa using hpp
      rw [this]
      congr 1
      cases 5 - m with
      | zero => rfl
      | succ q => rfl
    have g0 : (ws.set (2 + m) pp).getD 0 0 = ws.getD 0 0 := by
      rw [List.getD_eq_getElem?_getD, List.getElem?_set, if_neg (by omega), List.getD_eq_getElem?_getD]
    have g1 : (ws.set (2 + m) pp).getD 1 0 = ws.getD 1 0 := by
      rw [List.getD_eq_getElem?_getD, List.getElem?_set, if_neg (by omega), List.getD_eq_getElem?_getD]
    have hslot : slotOf s.slot (lay ws [(2 + m, ((pp : Nat) : Int).toNat)]) = [addB s ((pp : Nat) : Int).toNat] := by
      show slotOf s.slot (ws.set (2 + m) pp) = [addB s pp]
      unfold slotOf addB
      rw [g0, if_neg h0, g1, hnew, hse]
    rw [hslot, hS, haA, List.set_append, if_neg (by omega), Nat.sub_self]
    rfl
  | none =>
    simp only
    unfold openF vacF
    cases hfd : (List.range n).find? (fun k : Nat => !usedA (slotsN LS from_ n) (k : Int)) with
    | none => exact ⟨rfl, rfl⟩
    | some k =>
      have hk : k < n := List.mem_range.1 (List.mem_of_find?_eq_some hfd)
      have hu : usedA (slotsN LS from_ n) (k : Int) = false := by
        have := List.find?_some hfd
        simpa using this
      obtain ⟨A, B, hA, hB, hS, hset⟩ := slots_at (LS := LS) (from_ := from_) hfit hk
      have h8 := line_len h hk
      have hold : slotOf k (LS.getD (from_ + k) []) = [] := by
        cases hso : slotOf k (LS.getD (from_ + k) []) with
        | nil => rfl
        | cons s r =>
          unfold usedA at hu
          rw [List.any_eq_false] at hu
          have hsk : s.slot = k := slot_slot (ws := LS.getD (from_ + k) []) (by rw [hso]; simp)
          exact absurd (by rw [hsk]; simp) (hu s (by rw [hS, hso]; simp))
      simp only
      rw [if_neg (by show ¬ ((k : Nat) : Int) < 0; omega)]
      refine ⟨rfl, ?_⟩
      rw [if_pos rfl, hset]
      rw [hold, List.nil_append] at hS
      have hins : insG (fun s : Sl => s.slot) ⟨k, ow, 0, [pp]⟩ (slotsN LS from_ n) = A ++ ⟨k, ow, 0, [pp]⟩ :: B := by
        rw [hS, insG_all (fun s hs => by have := hA s hs; show ¬ k < s.slot; omega), insG_front (fun s hs => hB s hs)]
      have hf : slotOf k (lay (LS.getD (from_ + k) []) (freshA ow pp)) = [⟨k, ow, 0, [pp]⟩] := by
        rw [fresh_line h8]
        unfold slotOf
        rw [if_neg (by show ¬ ow = 0; omega), blocksOf_fresh hpp]
        rfl
      show A ++ (slotOf k (lay (LS.getD (from_ + k) []) (freshA ow pp)) ++ B) = insG (fun s : Sl => s.slot) ⟨k, ow, 0, [pp]⟩ (slotsN LS from_ n)
      rw [hf, hins]
      rfl

theorem do_law {LS : List (List Nat)} {from_ n : Nat} (h : LI LS from_ n) (kind owner x : Int) : (doF from_ n LS kind owner x).1 = (refDo (slotsN LS from_ n) n kind owner x).1 ∧
    slotsN (doF from_ n LS kind owner x).2 from_ n = if (refDo (slotsN LS from_ n) n kind owner x).1 = 0 then (refDo (slotsN LS from_ n) n kind owner x).2 else slotsN LS from_ n := by
  unfold doF refDo
  split
  · unfold refClosed ownsF
    rw [closed_law h.fit]
    unfold closeF
    cases ho : (slotsN LS from_ n).any (fun s => decide ((s.owner : Int) = owner)) with
    | true => exact ⟨rfl, rfl⟩
    | false =>
      refine ⟨rfl, ?_⟩
      show keepF _ _ = slotsN LS from_ n
      unfold keepF
      rw [List.filter_eq_self]
      intro s hs
      have := List.any_eq_false.1 ho s hs
      simpa using this
  · split
    · unfold refStamped ownsF stampF
      split
      · exact ⟨rfl, rfl⟩
      · simp only
        cases ho : (slotsN LS from_ n).any (fun s => decide ((s.owner : Int) = owner)) with
        | true => exact ⟨rfl, stamped_law h.fit h.len8 _ _⟩
        | false =>
          refine ⟨rfl, ?_⟩
          show slotsN (eachF _ _ _ _ _) _ _ = slotsN LS from_ n
          rw [each_none ho]
    · exact added_law h owner x

/-- Outside of the slots nothing changes. -/
theorem do_out {LS : List (List Nat)} {from_ n : Nat} (h : LI LS from_ n) (kind owner x : Int) (i : Nat) (hi : i < from_ ∨ from_ + n ≤ i) : (doF from_ n LS kind owner x).2.getD i [] = LS.getD i [] := by
  have hset : ∀ k ws, k < n → (LS.set (from_ + k) ws).getD i [] = LS.getD i [] := fun k ws hk => by
    rw [getD_set (by have := h.fit; omega), if_neg (by omega)]
  unfold doF
  split
  · show (eachF from_ owner [(0, 0)] LS (slotsN LS from_ n)).getD i [] = _
    rw [each_get h.fit _ _ n (Nat.le_refl _), if_neg (by omega)]
  · split
    · unfold stampF
      split
      · rfl
      · show (eachF from_ owner _ LS (slotsN LS from_ n)).getD i [] = _
        rw [each_get h.fit _ _ n (Nat.le_refl _), if_neg (by omega)]
    · unfold addF
      split
      · rfl
      · split
        · rfl
        · split
          · rfl
          · unfold openA
            cases hfi : (slotsN LS from_ n).findIdx? (roomA owner) with
            | some a =>
              obtain ⟨ha, _, _⟩ := List.findIdx?_eq_some_iff_getElem.1 hfi
              refine hset _ _ (slotsN_lt (LS := LS) (from_ := from_) ?_)
              rw [List.getD_eq_getElem?_getD, List.getElem?_eq_getElem ha]
              exact List.getElem_mem ha
            | none =>
              simp only
              cases hfd : (List.range n).find? (fun k : Nat => !usedA (slotsN LS from_ n) (k : Int)) with
              | none => rfl
              | some k => exact hset _ _ (List.mem_range.1 (List.mem_of_find?_eq_some hfd))

theorem do_len {LS : List (List Nat)} {from_ n : Nat} (kind owner x : Int) : (doF from_ n LS kind owner x).2.length = LS.length := by
  unfold doF
  split
  · exact eachF_len
  · split
    · unfold stampF
      split
      · rfl
      · exact eachF_len
    · unfold addF
      split
      · rfl
      · split
        · rfl
        · split
          · rfl
          · unfold openA
            split
            · simp
            · split
              · simp
              · rfl

end Go.Proofs.YtlfolinjajjgjaaDoor
