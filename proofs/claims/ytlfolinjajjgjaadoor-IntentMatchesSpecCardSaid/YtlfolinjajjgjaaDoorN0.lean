/- memory.New; small functions of the law and of the specification. -/
import Derived.Test.YtlfolinjajjgjaaDoorI6
namespace Go.Proofs.YtlfolinjajjgjaaDoor
open Go.E

theorem flatten_rep {α : Type} (n : Nat) (l : List α) {β : Type} (x : β) (f : β → List α) (h : f x = l) : (List.replicate n l).flatten = (List.replicate n x).flatMap f := by
  rw [List.flatMap_def, List.map_replicate, h]

def raw0 : Ln := ⟨zeros8, 0, [], 0⟩
theorem raw0_ok : raw0.Ok := ⟨zeros8_ok, by decide, by simp [raw0], by simp [raw0]⟩
def nilv : Value := .slice none 0 0

def newRows (n k : Nat) : List (Ln × Value) := List.replicate k (quiet zeros8, nilv) ++ List.replicate (n - k) (raw0, nilv)

theorem newRows_get {n k : Nat} (h : k < n) : (newRows n k)[k]? = some (raw0, nilv) := by
  unfold newRows
  rw [List.getElem?_append_right (by simp)]
  simp only [List.length_replicate, Nat.sub_self]
  rw [List.getElem?_replicate, if_pos (by omega)]
theorem newRows_set {n k : Nat} (h : k < n) : (newRows n k).set k (quiet zeros8, nilv) = newRows n (k + 1) := by
  unfold newRows
  rw [List.set_append, if_neg (by simp)]
  have : n - k = (n - (k + 1)) + 1 := by omega
  rw [this, List.replicate_succ, List.length_replicate, Nat.sub_self, List.set_cons_zero, List.replicate_succ' (n := k), List.append_assoc]
  rfl
theorem newRows_len {n k : Nat} (h : k ≤ n) : (newRows n k).length = n := by simp [newRows]; omega
theorem newRows_ok {n k : Nat} : ∀ r ∈ newRows n k, r.1.Ok ∧ r.2 = nilv ∧ r.1.pend = [] := by
  intro r hr
  unfold newRows at hr
  rcases List.mem_append.1 hr with hr | hr
  · obtain rfl := List.eq_of_mem_replicate hr
    exact ⟨quiet_ok zeros8_ok, rfl, rfl⟩
  · obtain rfl := List.eq_of_mem_replicate hr
    exact ⟨raw0_ok, rfl, rfl⟩

theorem busy_none {rows : List (Ln × Value)} (h : ∀ r ∈ rows, r.1.pend = []) (k : Int) : busyM rows k = none := by
  cases hk : busyM rows k with
  | none => rfl
  | some v =>
    obtain ⟨i, r, _, hr, hp⟩ := busy_some hk
    exact absurd (h r (List.mem_of_getElem? hr)) hp

theorem foot_nil {p bl bm : Nat} {rows : List (Ln × Value)} (h : ∀ r ∈ rows, r.2 = nilv) : foot p bl bm rows nilv = [p, bl, bm] := by
  unfold foot
  have : (rows.flatMap fun r => r.2.ownBlock.toList) = [] := by
    rw [List.flatMap_eq_nil_iff]
    intro r hr
    rw [h r hr]; rfl
  rw [this]
  rfl

theorem lc_nil {l : Ln} {v : Value} (hv : v = nilv) : lcells (l, v) = wcells l.ws ++ [.int .i64 (l.code : Nat), .slice none 0 0, .int .i64 (l.mark : Nat)] := by subst hv; rfl

set_option maxHeartbeats 1000000 in
theorem New_calls (w : World) (hg : Gl w) (n : Nat) (h1 : 1 ≤ n) (hn : n ≤ 4096) :
    Calls cx.P 6 #[.int .i64 (n : Nat)] w (Ret fun v w' => Tr [] w w' ∧ ∃ p F, v = .pointer (some ⟨p, 0, none⟩) ∧ QMem w' p (List.replicate n zeros8) 0 F ∧ ∀ b ∈ F, w.heap.size ≤ b) := by
  refine calls_body cx_ok (args := [.int .i64 (n : Nat)]) Tryd.func6 rfl 32 rfl rfl [.tmp 2] rfl ?_
  refine ⟨fun h => absurd h (by omega), fun _ => ⟨fun h => absurd h (by omega), fun _ => ?_⟩⟩
  refine ⟨n, n, rfl, rfl, Nat.le_refl _, ⟨by show n * 104 ≤ _; omega, by omega, rfl⟩, fun bl w1 n1 => ?_⟩
  have e1 := n1.num; have z1 := n1.size
  have B1 : Blk w1 bl ((newRows n 0).flatMap lcells) 69 := by
    have hb := n1.blk
    have : newRows n 0 = List.replicate n (raw0, nilv) := by simp [newRows]
    rw [this, ← flatten_rep n _ (raw0, nilv) lcells rfl]
    exact hb
  refine ⟨_, rfl, ?_⟩
  refine call (Encode_calls zeros8 zeros8_ok w1 (hg.ext n1.tr)) ?_
  rintro _ w2 ⟨rfl, t2⟩
  have z2 := t2.size
  refine loop_rule cx_ok (fun k W => k ≤ n ∧ Tr [] w W ∧ Blk W bl ((newRows n k).flatMap lcells) 69) (fun k : Nat => [(3, .slice (some ⟨bl, 0, none⟩) n n), (4, .int .i64 (enc zeros8 : Nat)), (17, .int .i64 n), (18, .int .i64 k)]) (fun k => n - k) 0
    ⟨rfl, rfl, rfl, rfl, trivial⟩ ⟨by omega, n1.tr.ext t2, B1.ext t2⟩ ?_
  rintro k W ⟨hk, tW, BW⟩
  have hL : ∀ r ∈ newRows n k, (lcells r).length = 11 := fun r hr => lcells_len (newRows_ok r hr).1
  refine ⟨fun hlt => ?_, fun hge => ?_⟩
  · have hkn : k < n := by omega
    refine ⟨k, rfl, hkn, _, _, BW, by rw [fm_len hL, newRows_len hk]; show 0 + k * 11 + 0 + 8 < _; omega, rfl, fun W1 u1 => ?_⟩
    have B2 : Blk W1 bl (((newRows n k).flatMap lcells).set (0 + k * 11 + 0 + 8) (.int .i64 (enc zeros8 : Nat))) 69 := u1.blk
    rw [show 0 + k * 11 + 0 + 8 = k * 11 + 8 by omega, line_set (j := 8) (r' := (quiet zeros8, nilv)) hL (newRows_get hkn) (by omega) (lcells_tail (r' := (quiet zeros8, nilv)) (r := (raw0, nilv)) (j := 0) rfl rfl (.int .i64 (enc zeros8 : Nat)) rfl (by omega)), newRows_set hkn] at B2
    refine ⟨((k + 1 : Nat) : Int), by rw [w64 (by omega)]; omega, ?_⟩
    exact ⟨rfl, k + 1, ⟨rfl, rfl, rfl, rfl, trivial⟩, ⟨by omega, u1.ext tW (by omega), B2⟩, by omega⟩
  · obtain rfl : k = n := by omega
    intro bm W1 m1
    refine ⟨_, rfl, fun p W2 m2 => ?_⟩
    have em1 := m1.num; have em2 := m2.num; have zm1 := m1.size; have zm2 := m2.size; have zW := tW.size
    have hlt := BW.lt
    have hrows : newRows k k = List.replicate k (quiet zeros8, nilv) := by simp [newRows]
    rw [hrows] at BW
    have hok : ∀ r ∈ List.replicate k (quiet zeros8, nilv), r.1.Ok ∧ r.2 = nilv ∧ r.1.pend = [] := fun r hr => newRows_ok (n := k) (k := k) r (by rw [hrows]; exact hr)
    have hfoot : foot p bl bm (List.replicate k (quiet zeros8, nilv)) nilv = [p, bl, bm] := foot_nil fun r hr => (hok r hr).2.1
    have hgs := hg.size
    refine ⟨(tW.ext m1.tr).ext m2.tr, p, [p, bl, bm], rfl, ⟨bl, bm, List.replicate k (quiet zeros8, nilv), nilv, 0, ⟨⟨?_, (BW.ext m1.tr).ext m2.tr, fun r hr => ?_, ⟨[], World.ownsRow_nil _ _ _ _⟩, fun r hr => (hok r hr).1, ?_, ?_, by rw [List.length_replicate]; exact hn, by omega⟩, ?_⟩, by simp, hfoot.symm⟩, fun b hb => ?_⟩
    · rw [List.length_replicate]
      exact m2.blk
    · obtain ⟨_, h2, h3⟩ := hok r hr
      rw [h2, h3]
      exact World.ownsRow_nil _ _ _ _
    · rw [hfoot]
      simp
      omega
    · rw [hfoot]
      intro b hb
      simp at hb
      omega
    · exact ((IM.new m1).tr m2.tr (by simp)).congr fun k => (busy_none (fun r hr => (hok r hr).2.2) k).symm
    · simp at hb
      omega

/-! small ones -/

def layC (lines from_ n : Nat) : List Value := [.int .i64 (lines : Nat), .int .i64 0, .int .i64 0, .int .i64 (from_ : Nat), .int .i64 (n : Nat), .int .i64 0, .int .i64 0, .int .i64 0]
theorem layC_ok (lines from_ n : Nat) : LayC (layC lines from_ n) from_ n := ⟨rfl, rfl, rfl, rfl⟩

theorem area_calls (lines from_ n : Nat) (w : World) : Calls cx.P 8 #[.int .i64 (lines : Nat), .int .i64 (from_ : Nat), .int .i64 (n : Nat)] w (Ret fun v w' => v = .agg (layC lines from_ n).toArray ∧ Tr [] w w') := by
  refine calls_body cx_ok (args := [.int .i64 (lines : Nat), .int .i64 (from_ : Nat), .int .i64 (n : Nat)]) Tryd.func8 rfl 11 rfl rfl [.cell 6 27] rfl ?_
  intro b6 w1 n1
  have e1 := n1.num
  refine ⟨_, rfl, _, _, n1.blk, rfl, by show 0 + 8 ≤ 8; decide, rfl, fun w2 u2 => ?_⟩
  exact ⟨_, u2.blk.all, rfl, rfl, u2.ext n1.tr (by omega)⟩

theorem Make_calls (line gen : Nat) (hl : 1 ≤ line ∧ line ≤ 4095) (hgn : 1 ≤ gen ∧ gen ≤ 1048575) (w : World) : Calls cx.P 25 #[.int .i64 (line : Nat), .int .i64 (gen : Nat)] w (Ret fun v w' => v = .int .i64 (line + gen * 4096 : Nat) ∧ w = w') := by
  refine calls_body cx_ok (args := [.int .i64 (line : Nat), .int .i64 (gen : Nat)]) Tryd.func25 rfl 23 rfl rfl [.tmp 4] rfl ?_
  refine ⟨fun h => absurd h (by omega), fun _ => ⟨fun h => absurd h (by omega), fun _ => ⟨fun h => absurd h (by omega), fun _ => ⟨fun h => absurd h (by omega), fun _ => ?_⟩⟩⟩⟩
  refine ⟨((gen * 4096 : Nat) : Int), by rw [w64 (by omega)]; omega, ((line + gen * 4096 : Nat) : Int), by rw [w64 (by omega)]; omega, ?_⟩
  exact ⟨rfl, rfl⟩

theorem word07_calls (x : Int) (w : World) : Calls cx.P 41 #[.int .i64 x] w (Ret fun v w' => v = .bool (decide (0 ≤ x ∧ x ≤ 1099511627775)) ∧ w = w') := by
  refine calls_body cx_ok (args := [.int .i64 x]) Tryd.func41 rfl 9 rfl rfl [.tmp 2] rfl ?_
  refine ⟨fun h0 => ⟨fun h1 => ?_, fun h1 => ?_⟩, fun h0 => ?_⟩
  · exact ⟨by simp [h0, h1], rfl⟩
  · exact ⟨by simp [h1], rfl⟩
  · exact ⟨by simp [h0], rfl⟩

theorem Right07_calls (x : Int) (hx : -9223372036854775808 ≤ x ∧ x ≤ 9223372036854775807) (w : World) : Calls cx.P 17 #[.int .i64 x] w (Ret fun v w' => v = .bool (rightP x) ∧ w = w') := by
  refine calls_body cx_ok (args := [.int .i64 x]) Tryd.func17 rfl 22 rfl rfl [.tmp 2] rfl ?_
  refine ⟨fun h0 => ?_, fun h0 => ?_⟩
  · exact ⟨by simp [rightP, h0], rfl⟩
  refine call (word07_calls x w) ?_
  rintro _ _ ⟨hv, rfl⟩
  by_cases hw : 0 ≤ x ∧ x ≤ 1099511627775
  · rw [decide_eq_true hw] at hv
    subst hv
    refine ⟨x % 4096, by decide, by rw [IntWalk.rem_in _ _ (by omega)], fun h1 => ?_, fun h1 => ?_⟩
    · refine ⟨x / 4096, by decide, by rw [IntWalk.i64_quo _ _ (by omega)], fun h2 => ?_, fun h2 => ?_⟩
      · refine ⟨x / 4096, by decide, by rw [IntWalk.i64_quo _ _ (by omega)], fun h3 => ?_, fun h3 => ?_⟩
        · exact ⟨by simp [rightP] <;> omega, rfl⟩
        · exact ⟨by simp [rightP] <;> omega, rfl⟩
      · exact ⟨by simp [rightP] <;> omega, rfl⟩
    · exact ⟨by simp [rightP] <;> omega, rfl⟩
  · rw [decide_eq_false hw] at hv
    subst hv
    exact ⟨by simp [rightP] <;> omega, rfl⟩

end Go.Proofs.YtlfolinjajjgjaaDoor
