/- The plain law of IntentKeeps: no block belongs to two slots. -/
import Derived.Test.YtlfolinjajjgjaaDoorI5
namespace Go.Proofs.YtlfolinjajjgjaaDoor
open Go.E

def bofW (ws : List Nat) : List Nat := if ws.getD 0 0 = 0 then [] else blocksOf ws
def bof (LS : List (List Nat)) (from_ i : Nat) : List Nat := bofW (LS.getD (from_ + i) [])

theorem slots_bof (LS : List (List Nat)) (from_ : Nat) : ∀ n, (slotsN LS from_ n).flatMap (·.blocks) = (List.range n).flatMap (bof LS from_)
  | 0 => rfl
  | n + 1 => by
    rw [List.range_succ, List.flatMap_append, ← slots_bof LS from_ n]
    show (slotsN LS from_ n ++ slotOf n (LS.getD (from_ + n) [])).flatMap (·.blocks) = _
    rw [List.flatMap_append]
    congr 1
    unfold slotOf bof bofW
    simp only [List.flatMap_cons, List.flatMap_nil, List.append_nil]
    split <;> simp

/-- What holds of the slots. -/
structure LI (LS : List (List Nat)) (from_ n : Nat) : Prop where
  len8 : ∀ ws ∈ LS, ws.length = 8
  fit : from_ + n ≤ LS.length
  tail : ∀ i, i < n → (LS.getD (from_ + i) []).getD 0 0 ≠ 0 → (LS.getD (from_ + i) []).drop 2 = blocksOf (LS.getD (from_ + i) []) ++ List.replicate (6 - (blocksOf (LS.getD (from_ + i) [])).length) 0
  nodup : ((List.range n).flatMap (bof LS from_)).Nodup
  good : ∀ i, i < n → ∀ x ∈ bof LS from_ i, rightP (x : Int) = true ∧ x ≠ 0

theorem range_at (n k : Nat) (h : k < n) : ∃ A B : List Nat, List.range n = A ++ k :: B ∧ k ∉ A ∧ k ∉ B := by
  refine ⟨List.range k, List.range' (k + 1) (n - k - 1), range_split k n h, by simp, ?_⟩
  rw [List.mem_range'_1]
  omega

theorem fm_at {n k : Nat} (h : k < n) (f : Nat → List Nat) : ∃ A B : List Nat, ∀ f' : Nat → List Nat, (∀ i, i ≠ k → f' i = f i) → (List.range n).flatMap f' = A ++ (f' k ++ B) := by
  obtain ⟨A, B, hr, hA, hB⟩ := range_at n k h
  refine ⟨A.flatMap f, B.flatMap f, fun f' hf => ?_⟩
  rw [hr, List.flatMap_append, List.flatMap_cons]
  have cg : ∀ l : List Nat, k ∉ l → l.flatMap f' = l.flatMap f := by
    intro l hl
    induction l with
    | nil => rfl
    | cons x r ih =>
      rw [List.flatMap_cons, List.flatMap_cons, hf x (fun e => hl (by simp [e])), ih (fun hm => hl (by simp [hm]))]
  rw [cg A hA, cg B hB]

theorem getD_set {LS : List (List Nat)} {k : Nat} {ws : List Nat} (hk : k < LS.length) (i : Nat) : (LS.set k ws).getD i [] = if i = k then ws else LS.getD i [] := by
  rw [List.getD_eq_getElem?_getD, List.getElem?_set]
  by_cases h : k = i
  · subst h; simp [hk]
  · rw [if_neg h, if_neg (fun e => h e.symm), List.getD_eq_getElem?_getD]

theorem bof_set {LS : List (List Nat)} {from_ k : Nat} {ws : List Nat} (hk : from_ + k < LS.length) (i : Nat) : bof (LS.set (from_ + k) ws) from_ i = if i = k then bofW ws else bof LS from_ i := by
  unfold bof
  rw [getD_set hk]
  by_cases h : i = k
  · subst h; simp
  · rw [if_neg (by omega), if_neg h]

/-- One line is another: its blocks are those that it had, or none, or they and one that is new. -/
theorem LI.set {LS : List (List Nat)} {from_ n : Nat} (h : LI LS from_ n) {k : Nat} (hk : k < n) {ws : List Nat} (h8 : ws.length = 8)
    (ht : ws.getD 0 0 ≠ 0 → ws.drop 2 = blocksOf ws ++ List.replicate (6 - (blocksOf ws).length) 0)
    (hb : (∃ l : List Nat, bofW ws = l ∧ l.Sublist (bof LS from_ k)) ∨ ∃ (x : Nat) (l : List Nat), bofW ws = l ++ [x] ∧ l.Sublist (bof LS from_ k) ∧ rightP (x : Int) = true ∧ x ≠ 0 ∧ ∀ i, i < n → x ∉ bof LS from_ i) : LI (LS.set (from_ + k) ws) from_ n := by
  have hf := h.fit
  have hkl : from_ + k < LS.length := by omega
  have hbs := fun i => bof_set (ws := ws) hkl i
  refine ⟨fun v hv => ?_, by simpa using hf, fun i hi h0 => ?_, ?_, fun i hi x hx => ?_⟩
  · rcases List.mem_or_eq_of_mem_set hv with hv | rfl
    · exact h.len8 v hv
    · exact h8
  · rw [getD_set hkl] at h0 ⊢
    by_cases hik : from_ + i = from_ + k
    · rw [if_pos hik] at h0 ⊢
      exact ht h0
    · rw [if_neg hik] at h0 ⊢
      exact h.tail i hi h0
  · obtain ⟨A, B, hAB⟩ := fm_at hk (bof LS from_)
    have h1 := hAB (bof LS from_) (fun _ _ => rfl)
    have h2 := hAB (bof (LS.set (from_ + k) ws) from_) (fun i hi => by rw [hbs i, if_neg hi])
    have hn := h.nodup
    rw [h1] at hn
    rw [h2, hbs k, if_pos rfl]
    rcases hb with ⟨l, hl, hs⟩ | ⟨x, l, hl, hs, _, _, hx⟩
    · rw [hl]
      exact hn.sublist ((List.Sublist.refl A).append (hs.append (List.Sublist.refl B)))
    · rw [hl]
      have hn' : (A ++ (l ++ B)).Nodup := hn.sublist ((List.Sublist.refl A).append (hs.append (List.Sublist.refl B)))
      have hxn : x ∉ A ++ (bof LS from_ k ++ B) := by
        rw [← h1]
        intro hm
        obtain ⟨i, hi, hxi⟩ := List.mem_flatMap.1 hm
        exact hx i (List.mem_range.1 hi) hxi
      have hxn' : x ∉ A ++ (l ++ B) := fun hm => hxn (((List.Sublist.refl A).append (hs.append (List.Sublist.refl B))).subset hm)
      have hp : (A ++ (l ++ [x] ++ B)).Perm (x :: (A ++ (l ++ B))) := by
        have := List.perm_middle (a := x) (l₁ := A ++ l) (l₂ := B)
        simpa using this
      exact hp.nodup_iff.2 (List.nodup_cons.2 ⟨hxn', hn'⟩)
  · rw [hbs i] at hx
    by_cases hik : i = k
    · rw [if_pos hik] at hx
      rcases hb with ⟨l, hl, hs⟩ | ⟨y, l, hl, hs, hy1, hy2, _⟩
      · rw [hl] at hx
        exact h.good k hk x (hs.subset hx)
      · rw [hl] at hx
        rcases List.mem_append.1 hx with hx | hx
        · exact h.good k hk x (hs.subset hx)
        · obtain rfl : x = y := by simpa using hx
          exact ⟨hy1, hy2⟩
    · rw [if_neg hik] at hx
      exact h.good i hi x hx

theorem line_len {LS : List (List Nat)} {from_ n : Nat} (h : LI LS from_ n) {k : Nat} (hk : k < n) : (LS.getD (from_ + k) []).length = 8 := by
  apply h.len8
  have := h.fit
  rw [List.getD_eq_getElem?_getD, List.getElem?_eq_getElem (by omega)]
  exact List.getElem_mem _

theorem LI.close {LS : List (List Nat)} {from_ n : Nat} (h : LI LS from_ n) {k : Nat} (hk : k < n) : LI (LS.set (from_ + k) (lay (LS.getD (from_ + k) []) [(0, 0)])) from_ n := by
  have h8 := line_len h hk
  have h0 : (lay (LS.getD (from_ + k) []) [(0, 0)]).getD 0 0 = 0 := by
    show ((LS.getD (from_ + k) []).set 0 0).getD 0 0 = 0
    rw [List.getD_eq_getElem?_getD, List.getElem?_set, if_pos rfl]
    split <;> rfl
  refine h.set hk (by show ((LS.getD (from_ + k) []).set 0 0).length = 8; simpa using h8) (fun hn => absurd h0 hn) (.inl ⟨[], ?_, List.nil_sublist _⟩)
  unfold bofW
  rw [if_pos h0]

theorem LI.stamp {LS : List (List Nat)} {from_ n : Nat} (h : LI LS from_ n) {k : Nat} (hk : k < n) (st : Nat) : LI (LS.set (from_ + k) (lay (LS.getD (from_ + k) []) [(1, st)])) from_ n := by
  have h8 := line_len h hk
  obtain ⟨ws, hws⟩ : ∃ ws, ws = LS.getD (from_ + k) [] := ⟨_, rfl⟩
  have hb0 : bof LS from_ k = bofW ws := by unfold bof; rw [hws]
  have ht := h.tail k hk
  rw [← hws] at h8 ht ⊢
  show LI (LS.set (from_ + k) (ws.set 1 st)) from_ n
  have h0 : (ws.set 1 st).getD 0 0 = ws.getD 0 0 := by
    rw [List.getD_eq_getElem?_getD, List.getElem?_set, if_neg (by decide), List.getD_eq_getElem?_getD]
  have hd : (ws.set 1 st).drop 2 = ws.drop 2 := by rw [List.drop_set_of_lt (by decide)]
  have hbl : blocksOf (ws.set 1 st) = blocksOf ws := by unfold blocksOf; rw [hd]
  refine h.set hk (by simpa using h8) (fun hn => ?_) (.inl ⟨_, rfl, ?_⟩)
  · rw [hd, hbl]
    exact ht (by rw [← h0]; exact hn)
  · rw [hb0]
    unfold bofW
    rw [h0, hbl]
    exact List.Sublist.refl _

theorem LI.each {from_ n : Nat} {owner : Int} {prs : List (Nat × Nat)} (hset : ∀ LS, LI LS from_ n → ∀ k, k < n → LI (LS.set (from_ + k) (lay (LS.getD (from_ + k) []) prs)) from_ n) :
    ∀ (S : List Sl) (LS : List (List Nat)), LI LS from_ n → (∀ s ∈ S, s.slot < n) → LI (eachF from_ owner prs LS S) from_ n
  | [], LS, h, _ => h
  | s :: r, LS, h, hS => by
    show LI (eachF from_ owner prs (if (s.owner : Int) = owner then LS.set (from_ + s.slot) (lay (LS.getD (from_ + s.slot) []) prs) else LS) r) from_ n
    refine LI.each hset r _ ?_ (fun x hx => hS x (by simp [hx]))
    split
    · exact hset LS h _ (hS s (by simp))
    · exact h

theorem fresh_line {ws : List Nat} (h : ws.length = 8) (ow pp : Nat) : lay ws (freshA ow pp) = [ow, 0, pp, 0, 0, 0, 0, 0] := by
  match ws, h with
  | [a, b, c, d, e, f, g, i], _ => rfl

theorem blocksOf_fresh {ow pp : Nat} (h : pp ≠ 0) : blocksOf [ow, 0, pp, 0, 0, 0, 0, 0] = [pp] := by
  unfold blocksOf
  have : (pp != 0) = true := by simpa using h
  simp [List.takeWhile_cons, this]

theorem usedA_slots {LS : List (List Nat)} {from_ n k : Nat} (hk : k < n) (hu : usedA (slotsN LS from_ n) (k : Int) = false) : bof LS from_ k = [] := by
  unfold bof bofW
  split
  · rfl
  · rename_i h0
    exfalso
    have hmem : ∀ m, k < m → (⟨k, (LS.getD (from_ + k) []).getD 0 0, (LS.getD (from_ + k) []).getD 1 0, blocksOf (LS.getD (from_ + k) [])⟩ : Sl) ∈ slotsN LS from_ m := by
      intro m
      induction m with
      | zero => intro h; omega
      | succ m ih =>
        intro hm
        show _ ∈ slotsN LS from_ m ++ slotOf m (LS.getD (from_ + m) [])
        by_cases hkm : k = m
        · subst hkm
          refine List.mem_append_right _ ?_
          unfold slotOf
          rw [if_neg h0]
          simp
        · exact List.mem_append_left _ (ih (by omega))
    unfold usedA at hu
    rw [List.any_eq_false] at hu
    exact hu _ (hmem n hk) (by simp)

theorem twice_bof {LS : List (List Nat)} {from_ n : Nat} {x : Nat} (ht : twiceA (slotsN LS from_ n) (x : Int) = false) : ∀ i, i < n → x ∉ bof LS from_ i := by
  intro i hi hx
  have hm : x ∈ (slotsN LS from_ n).flatMap (·.blocks) := by
    rw [slots_bof]
    exact List.mem_flatMap.2 ⟨i, List.mem_range.2 hi, hx⟩
  obtain ⟨s, hs, hxs⟩ := List.mem_flatMap.1 hm
  unfold twiceA at ht
  rw [List.any_eq_false] at ht
  exact ht s hs (List.any_eq_true.2 ⟨x, hxs, by simp⟩)

theorem LI.add {LS : List (List Nat)} {from_ n : Nat} (h : LI LS from_ n) (owner x : Int) : LI (addF from_ n LS owner x).2 from_ n := by
  unfold addF
  split
  · exact h
  · rename_i hbad
    split
    · exact h
    · rename_i htw
      split
      · exact h
      · have hbad' : badA owner x = false := by simpa using hbad
        unfold badA at hbad'
        rw [Bool.or_eq_false_iff] at hbad'
        have hd := of_decide_eq_false hbad'.1
        have hr : rightP x = true := by simpa using hbad'.2
        obtain ⟨ow, rfl⟩ := Int.eq_ofNat_of_zero_le (show 0 ≤ owner by omega)
        have hx0 : 0 ≤ x := by
          unfold rightP at hr
          have := of_decide_eq_true hr
          omega
        obtain ⟨pp, rfl⟩ := Int.eq_ofNat_of_zero_le hx0
        have htw' : twiceA (slotsN LS from_ n) ((pp : Nat) : Int) = false := by simpa using htw
        have hno := twice_bof htw'
        have hpp : pp ≠ 0 := by omega
        unfold openA
        cases hfi : (slotsN LS from_ n).findIdx? (roomA ((ow : Nat) : Int)) with
        | some a =>
          simp only
          obtain ⟨ha, hroom, _⟩ := List.findIdx?_eq_some_iff_getElem.1 hfi
          obtain ⟨s, hs⟩ : ∃ s, s = (slotsN LS from_ n).getD a ⟨0, 0, 0, []⟩ := ⟨_, rfl⟩
          have hsg : (slotsN LS from_ n)[a] = s := by rw [hs, List.getD_eq_getElem?_getD, List.getElem?_eq_getElem ha]; rfl
          rw [← hs]
          rw [hsg] at hroom
          have hsm : s ∈ slotsN LS from_ n := by rw [← hsg]; exact List.getElem_mem ha
          have hk := slotsN_lt hsm
          have hof := slotsN_of hsm
          unfold roomA at hroom
          simp only [Bool.and_eq_true, decide_eq_true_eq] at hroom
          have h8 := line_len h hk
          have ht := h.tail s.slot hk
          have hb0 : bof LS from_ s.slot = bofW (LS.getD (from_ + s.slot) []) := rfl
          obtain ⟨ws, hws⟩ : ∃ ws, ws = LS.getD (from_ + s.slot) [] := ⟨_, rfl⟩
          rw [← hws] at h8 ht hof hb0 ⊢
          have h0 : ws.getD 0 0 ≠ 0 := fun e => by
            unfold slotOf at hof
            rw [if_pos e] at hof
            cases hof
          have hbl : s.blocks = blocksOf ws := by
            unfold slotOf at hof
            rw [if_neg h0] at hof
            have := congrArg (fun l : List Sl => l.map (·.blocks)) hof
            simpa using this.symm
          have ht := ht h0
          obtain ⟨m, hm⟩ : ∃ m, m = (blocksOf ws).length := ⟨_, rfl⟩
          have hm6 : m < 6 := by rw [hm, ← hbl]; exact hroom.2
          rw [hbl, ← hm]
          rw [← hm] at ht
          show LI (LS.set (from_ + s.slot) (ws.set (2 + m) pp)) from_ n
          have hd : (ws.set (2 + m) pp).drop 2 = blocksOf ws ++ pp :: List.replicate (5 - m) 0 := by
            rw [List.drop_set, if_neg (by omega), ht, Nat.add_sub_cancel_left, List.set_append, if_neg (by omega), ← hm, Nat.sub_self]
            have : 6 - m = (5 - m) + 1 := by omega
            rw [this, List.replicate_succ, List.set_cons_zero]
          have hbn : ∀ y ∈ blocksOf ws, (y != 0) = true := fun y hy => List.all_eq_true.1 (List.all_takeWhile (p := fun x : Nat => x != 0) (l := ws.drop 2)) y hy
          have hnew : blocksOf (ws.set (2 + m) pp) = blocksOf ws ++ [pp] := by
            show ((ws.set (2 + m) pp).drop 2).takeWhile _ = _
            rw [hd, List.takeWhile_append_of_pos hbn, List.takeWhile_cons]
            have : (pp != 0) = true := by simpa using hpp
            rw [this]
            congr 1
            cases 5 - m with
            | zero => rfl
            | succ q => rfl
          have h0' : (ws.set (2 + m) pp).getD 0 0 = ws.getD 0 0 := by
            rw [List.getD_eq_getElem?_getD, List.getElem?_set, if_neg (by omega), List.getD_eq_getElem?_getD]
          refine h.set hk (by simpa using h8) (fun _ => ?_) (.inr ⟨pp, blocksOf ws, ?_, ?_, hr, hpp, hno⟩)
          · rw [hd, hnew, List.length_append, ← hm]
            simp only [List.length_cons, List.length_nil, List.append_assoc, List.cons_append, List.nil_append]
            rw [show 6 - (m + (0 + 1)) = 5 - m by omega]
          · unfold bofW
            rw [h0', if_neg h0, hnew]
          · rw [hb0]
            unfold bofW
            rw [if_neg h0]
            exact List.Sublist.refl _
        | none =>
          simp only
          cases hfd : (List.range n).find? (fun k : Nat => !usedA (slotsN LS from_ n) (k : Int)) with
          | none => exact h
          | some k =>
            simp only
            have hk : k < n := List.mem_range.1 (List.mem_of_find?_eq_some hfd)
            have hu : usedA (slotsN LS from_ n) (k : Int) = false := by
              have := List.find?_some hfd
              simpa using this
            have h8 := line_len h hk
            show LI (LS.set (from_ + k) (lay (LS.getD (from_ + k) []) (freshA ow pp))) from_ n
            rw [fresh_line h8]
            have hb := blocksOf_fresh (ow := ow) hpp
            have how : ow ≠ 0 := by omega
            refine h.set hk rfl (fun _ => ?_) (.inr ⟨pp, [], ?_, List.nil_sublist _, hr, hpp, hno⟩)
            · rw [hb]; rfl
            · unfold bofW
              rw [if_neg (by show ¬ ow = 0; exact how), hb]
              rfl

theorem LI.start {from_ n k : Nat} (h : from_ + n ≤ k) : LI (List.replicate k zeros8) from_ n := by
  have hget : ∀ i, i < n → (List.replicate k zeros8).getD (from_ + i) [] = zeros8 := fun i hi => by
    rw [List.getD_eq_getElem?_getD, List.getElem?_replicate, if_pos (by omega)]; rfl
  have hb : ∀ i, i < n → bof (List.replicate k zeros8) from_ i = [] := fun i hi => by unfold bof; rw [hget i hi]; rfl
  refine ⟨fun ws hws => by rw [List.eq_of_mem_replicate hws]; rfl, by simpa using h, fun i hi h0 => ?_, ?_, fun i hi x hx => ?_⟩
  · rw [hget i hi] at h0; exact absurd rfl h0
  · have : (List.range n).flatMap (bof (List.replicate k zeros8) from_) = [] := by
      rw [List.flatMap_eq_nil_iff]
      intro i hi
      exact hb i (List.mem_range.1 hi)
    rw [this]; exact List.nodup_nil
  · rw [hb i hi] at hx; cases hx

end Go.Proofs.YtlfolinjajjgjaaDoor
