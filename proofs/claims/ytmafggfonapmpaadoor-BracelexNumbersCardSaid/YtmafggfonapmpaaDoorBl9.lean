/- The package bracelex, walked: one, Next. Conditions: strings of at most 10^11 bytes. -/
import Derived.Test.YtmafggfonapmpaaDoorBl8
import Derived.Deep.DeepCutAuto
import Derived.Deep.CutBlock
namespace Go.Proofs.YtmafggfonapmpaaDoor
open Go.RowKit
set_option maxHeartbeats 1000000
set_option maxRecDepth 100000

theorem idx_punct (c : UInt8) : decide (0 ≤ Lib.indexByte (L ⟨#[91, 93, 123, 125, 44, 58]⟩) c) = punct c := by
  have h : ∀ n : Fin 256, decide (0 ≤ Lib.indexByte (L ⟨#[91, 93, 123, 125, 44, 58]⟩) (UInt8.ofNat n.val)) = (n.val == 91 || n.val == 93 || n.val == 123 || n.val == 125 || n.val == 44 || n.val == 58) := by decide +kernel
  have := h ⟨c.toNat, c.toNat_lt⟩
  simpa [punct] using this
theorem EscPost_same {x : Nat × Nat × Nat} {r n k : Nat} (h : x = (r, n, k)) : EscPost x (.returned (.tuple #[.int .i64 r, .int .i64 n, .int .i64 k])) := by
  subst h
  exact ⟨r, n, rfl, fun _ => ⟨rfl, rfl⟩⟩
theorem EscPost_tok {k m n er : Nat} {y : Nat × Nat × Nat} (h : y = tok k (n, er)) (hm : er = 0 → m = n) : EscPost y (.returned (.tuple #[.int .i64 k, .int .i64 m, .int .i64 er])) := by
  subst h
  unfold tok
  by_cases hz : er = 0
  · subst hz
    obtain rfl := hm rfl
    exact ⟨k, m, rfl, fun _ => ⟨rfl, rfl⟩⟩
  · rw [if_pos hz]
    exact ⟨k, m, rfl, fun h => absurd h hz⟩
theorem spaceLen_cons (b : UInt8) (t : List UInt8) : spaceLen (b :: t) = if blank b then spaceLen t + 1 else 0 := rfl

theorem quotF_le : ∀ (f : Nat) (l : List UInt8), (quotF f l).2.1 ≤ l.length
  | 0, l => Nat.zero_le _
  | f + 1, [] => Nat.zero_le _
  | f + 1, b :: t => by
    unfold quotF
    by_cases h34 : b.toNat = 34
    · rw [if_pos h34]; simp
    rw [if_neg h34]
    by_cases h92 : b.toNat = 92
    · rw [if_pos h92]
      by_cases he : (escL t).2.2 = 0
      · rw [if_neg (by simpa using he)]
        have h1 := escL_ok t he
        have h2 := quotF_le f (t.drop (escL t).2.1)
        rw [List.length_drop] at h2
        split
        · exact Nat.zero_le _
        · simp only [List.length_cons]; omega
      · rw [if_pos he]; exact Nat.zero_le _
    · rw [if_neg h92]
      split
      · exact Nat.zero_le _
      · have h1 := dec_le (b :: t)
        have h2 := quotF_le f ((b :: t).drop (dec (b :: t)).2)
        rw [List.length_drop] at h2
        split
        · exact Nat.zero_le _
        · simp only [] at *; omega
theorem quotR_le (t : List UInt8) : (quotR t).2.1 ≤ 1 + t.length := by
  have := quotF_le t.length t
  unfold quotR quotFin
  split
  · exact Nat.zero_le _
  · show 1 + (quotF t.length t).2.1 ≤ _
    omega
theorem quotR_err (t : List UInt8) : (quotR t).2.2 = (quotL t).2.2 := by
  unfold quotR quotFin
  by_cases h : (quotL t).2.2 = 0
  · simp [h]
  · simp [h]
theorem quotR_len (t : List UInt8) (h : (quotL t).2.2 = 0) : (quotR t).2.1 = 1 + (quotL t).2.1 := by
  unfold quotR quotFin
  simp [h]
/-- The blanks. -/
theorem one_blank (s : ByteArray) (w : World) (hp : 0 < s.size) (hs : s.size ≤ 100000000000) (hb : Hid (blank s[0] = true)) (g : ((s[0].toNat : Int) == 32) = true ∨ (((s[0].toNat : Int) == 32) = false ∧ ((s[0].toNat : Int) == 9) = true)) :
    Calls Tryd.prog 19 #[.string s] w fun e w' => EscPost (1, spaceLen (L s), 0) e ∧ Below w.heap.size w w' := by
  rcases g with g | ⟨g, g2⟩
  · go_enter Tryd.func19, Tryd.ntmps19
    go_wp2_with fail
    go_loop [6] (fun n => ∃ k : Nat, 1 ≤ k ∧ k ≤ s.size ∧ n = .int .i64 k ∧ Hid (spaceLen (L s) = k + spaceLen ((L s).drop k))) (fun n => s.size - (intOf n).toNat)
    case atStart => exact ⟨1, Nat.le_refl _, by omega, rfl, by unfold Hid; rw [L_cons0 s hp, spaceLen_cons, hb.out, if_pos rfl]; simp; omega⟩
    case round =>
      obtain ⟨k, hk1, hk, rfl, hr⟩ := hrel
      by_cases hlt : k < s.size
      case neg =>
        have HF : Hid (spaceLen (L s) = k) := by unfold Hid; rw [hr.out, L_drop_nil s k (by omega)]; rfl
        clear hr
        go_wp2_with fail
        go_ret3
        exact ⟨EscPost_same (by rw [HF.out]), Below.refl _ _⟩
      have hS : Hid (spaceLen ((L s).drop k) = if blank s[k] then spaceLen ((L s).drop (k + 1)) + 1 else 0) := by unfold Hid; rw [L_drop s k hlt, spaceLen_cons]
      by_cases h32 : s[k].toNat = 32
      · have q : ((s[k].toNat : Int) == 32) = true := by rw [beq_iff_eq]; omega
        have HF : Hid (spaceLen (L s) = (k + 1) + spaceLen ((L s).drop (k + 1))) := by unfold Hid; rw [hr.out, hS.out, if_pos (by simp [blank, h32])]; omega
        clear h32 hr hS
        go_wp2_with fail
        exact ⟨⟨k + 1, by omega, by omega, rfl, HF⟩, by simp [intOf]; omega⟩
      have q : ((s[k].toNat : Int) == 32) = false := by rw [beq_eq_false_iff_ne]; omega
      by_cases h9 : s[k].toNat = 9
      · have q2 : ((s[k].toNat : Int) == 9) = true := by rw [beq_iff_eq]; omega
        have HF : Hid (spaceLen (L s) = (k + 1) + spaceLen ((L s).drop (k + 1))) := by unfold Hid; rw [hr.out, hS.out, if_pos (by simp [blank, h9])]; omega
        clear h32 h9 hr hS
        go_wp2_with fail
        exact ⟨⟨k + 1, by omega, by omega, rfl, HF⟩, by simp [intOf]; omega⟩
      · have q2 : ((s[k].toNat : Int) == 9) = false := by rw [beq_eq_false_iff_ne]; omega
        have HF : Hid (spaceLen (L s) = k) := by unfold Hid; rw [hr.out, hS.out, if_neg (by simp [blank, h32, h9])]; rfl
        clear h32 h9 hr hS
        go_wp2_with fail
        go_ret3
        exact ⟨EscPost_same (by rw [HF.out]), Below.refl _ _⟩
  · go_enter Tryd.func19, Tryd.ntmps19
    go_wp2_with fail
    go_loop [6] (fun n => ∃ k : Nat, 1 ≤ k ∧ k ≤ s.size ∧ n = .int .i64 k ∧ Hid (spaceLen (L s) = k + spaceLen ((L s).drop k))) (fun n => s.size - (intOf n).toNat)
    case atStart => exact ⟨1, Nat.le_refl _, by omega, rfl, by unfold Hid; rw [L_cons0 s hp, spaceLen_cons, hb.out, if_pos rfl]; simp; omega⟩
    case round =>
      obtain ⟨k, hk1, hk, rfl, hr⟩ := hrel
      by_cases hlt : k < s.size
      case neg =>
        have HF : Hid (spaceLen (L s) = k) := by unfold Hid; rw [hr.out, L_drop_nil s k (by omega)]; rfl
        clear hr
        go_wp2_with fail
        go_ret3
        exact ⟨EscPost_same (by rw [HF.out]), Below.refl _ _⟩
      have hS : Hid (spaceLen ((L s).drop k) = if blank s[k] then spaceLen ((L s).drop (k + 1)) + 1 else 0) := by unfold Hid; rw [L_drop s k hlt, spaceLen_cons]
      by_cases h32 : s[k].toNat = 32
      · have q : ((s[k].toNat : Int) == 32) = true := by rw [beq_iff_eq]; omega
        have HF : Hid (spaceLen (L s) = (k + 1) + spaceLen ((L s).drop (k + 1))) := by unfold Hid; rw [hr.out, hS.out, if_pos (by simp [blank, h32])]; omega
        clear h32 hr hS
        go_wp2_with fail
        exact ⟨⟨k + 1, by omega, by omega, rfl, HF⟩, by simp [intOf]; omega⟩
      have q : ((s[k].toNat : Int) == 32) = false := by rw [beq_eq_false_iff_ne]; omega
      by_cases h9 : s[k].toNat = 9
      · have q2 : ((s[k].toNat : Int) == 9) = true := by rw [beq_iff_eq]; omega
        have HF : Hid (spaceLen (L s) = (k + 1) + spaceLen ((L s).drop (k + 1))) := by unfold Hid; rw [hr.out, hS.out, if_pos (by simp [blank, h9])]; omega
        clear h32 h9 hr hS
        go_wp2_with fail
        exact ⟨⟨k + 1, by omega, by omega, rfl, HF⟩, by simp [intOf]; omega⟩
      · have q2 : ((s[k].toNat : Int) == 9) = false := by rw [beq_eq_false_iff_ne]; omega
        have HF : Hid (spaceLen (L s) = k) := by unfold Hid; rw [hr.out, hS.out, if_neg (by simp [blank, h32, h9])]; rfl
        clear h32 h9 hr hS
        go_wp2_with fail
        go_ret3
        exact ⟨EscPost_same (by rw [HF.out]), Below.refl _ _⟩

/-- Line ends. -/
theorem one_line (s : ByteArray) (w : World) (hp : 0 < s.size) (hs : s.size ≤ 100000000000) (g32 : ((s[0].toNat : Int) == 32) = false) (g9 : ((s[0].toNat : Int) == 9) = false) (g : ((s[0].toNat : Int) == 10) = true ∨ (((s[0].toNat : Int) == 10) = false ∧ ((s[0].toNat : Int) == 13) = true)) :
    Calls Tryd.prog 19 #[.string s] w fun e w' => EscPost (tok 2 (lineL (L s))) e ∧ Below w.heap.size w w' := by
  rcases g with g | ⟨g, g2⟩
  · go_enter Tryd.func19, Tryd.ntmps19
    go_wp2_with (go_at_call 32; refine (lineEnd_any s _ hp (by simp only [maxLen]; omega)).mono ?_; rintro e w' ⟨rfl, rfl⟩)
    go_ret3
    exact ⟨EscPost_tok rfl (fun _ => rfl), Below.refl _ _⟩
  · go_enter Tryd.func19, Tryd.ntmps19
    go_wp2_with (go_at_call 32; refine (lineEnd_any s _ hp (by simp only [maxLen]; omega)).mono ?_; rintro e w' ⟨rfl, rfl⟩)
    go_ret3
    exact ⟨EscPost_tok rfl (fun _ => rfl), Below.refl _ _⟩

/-- Comments. -/
theorem one_com (s : ByteArray) (w : World) (hp : 0 < s.size) (hs : s.size ≤ 100000000000) (g32 : ((s[0].toNat : Int) == 32) = false) (g9 : ((s[0].toNat : Int) == 9) = false) (g10 : ((s[0].toNat : Int) == 10) = false) (g13 : ((s[0].toNat : Int) == 13) = false) (g : ((s[0].toNat : Int) == 47) = true) :
    Calls Tryd.prog 19 #[.string s] w fun e w' => EscPost (tok 3 (comL (L s))) e ∧ Below w.heap.size w w' := by
  go_enter Tryd.func19, Tryd.ntmps19
  go_wp2_with (go_at_call 33; refine (comment_any s _ hs).mono ?_; rintro e w' ⟨rfl, rfl⟩)
  go_ret3
  exact ⟨EscPost_tok rfl (fun _ => rfl), Below.refl _ _⟩

/-- Punctuation. -/
theorem one_punct (s : ByteArray) (w : World) (hp : 0 < s.size) (_hs : s.size ≤ 100000000000) (g32 : ((s[0].toNat : Int) == 32) = false) (g9 : ((s[0].toNat : Int) == 9) = false) (g10 : ((s[0].toNat : Int) == 10) = false) (g13 : ((s[0].toNat : Int) == 13) = false) (g47 : ((s[0].toNat : Int) == 47) = false) (g : 0 ≤ Lib.indexByte (L ⟨#[91, 93, 123, 125, 44, 58]⟩) s[0]) :
    Calls Tryd.prog 19 #[.string s] w fun e w' => EscPost (4, 1, 0) e ∧ Below w.heap.size w w' := by
  go_enter Tryd.func19, Tryd.ntmps19
  go_wp2_with (go_at_call 34; refine (IndexByte_any _ _ _).mono ?_; rintro e w' ⟨rfl, rfl⟩)
  go_ret3
  exact ⟨EscPost_same rfl, Below.refl _ _⟩

/-- Quoted strings. -/
theorem one_quot (s : ByteArray) (w : World) (hp : 0 < s.size) (hs : s.size ≤ 100000000000) (g32 : ((s[0].toNat : Int) == 32) = false) (g9 : ((s[0].toNat : Int) == 9) = false) (g10 : ((s[0].toNat : Int) == 10) = false) (g13 : ((s[0].toNat : Int) == 13) = false) (g47 : ((s[0].toNat : Int) == 47) = false) (gp : ¬ 0 ≤ Lib.indexByte (L ⟨#[91, 93, 123, 125, 44, 58]⟩) s[0]) (g : ((s[0].toNat : Int) == 34) = true) :
    Calls Tryd.prog 19 #[.string s] w fun e w' => EscPost (tok 5 (1 + (quotL ((L s).drop 1)).2.1, (quotL ((L s).drop 1)).2.2)) e ∧ Below w.heap.size w w' := by
  go_enter Tryd.func19, Tryd.ntmps19
  go_wp2_with (first | (go_at_call 34; refine (IndexByte_any _ _ _).mono ?_; rintro e w' ⟨rfl, rfl⟩) | (go_at_call 20; refine (quoted_any s _ hp hs).mono ?_; rintro e w1 ⟨rfl, hb⟩; generalize hq : quotR ((L s).drop 1) = q; have HQ := Lib.hid hq; clear hq))
  go_ret3
  refine ⟨EscPost_tok (n := 1 + (quotL ((L s).drop 1)).2.1) (by rw [← HQ.out, quotR_err]) (fun h => ?_), hb⟩
  rw [← HQ.out, quotR_err] at h
  rw [← HQ.out]
  exact quotR_len _ h

/-- Strings of a sort. -/
theorem one_sort (s : ByteArray) (w : World) (hp : 0 < s.size) (hs : s.size ≤ 100000000000) (g32 : ((s[0].toNat : Int) == 32) = false) (g9 : ((s[0].toNat : Int) == 9) = false) (g10 : ((s[0].toNat : Int) == 10) = false) (g13 : ((s[0].toNat : Int) == 13) = false) (g47 : ((s[0].toNat : Int) == 47) = false) (gp : ¬ 0 ≤ Lib.indexByte (L ⟨#[91, 93, 123, 125, 44, 58]⟩) s[0]) (g34 : ((s[0].toNat : Int) == 34) = false) (g : ((s[0].toNat : Int) == 116) = true ∨ (((s[0].toNat : Int) == 116) = false ∧ ((s[0].toNat : Int) == 98) = true)) (h1 : 1 < s.size) (g1 : ((s[1].toNat : Int) == 34) = true) :
    Calls Tryd.prog 19 #[.string s] w fun e w' => EscPost (tok 5 (2 + (quotL ((L s).drop 2)).2.1, (quotL ((L s).drop 2)).2.2)) e ∧ Below w.heap.size w w' := by
  have hq1 : 0 < (s.extract 1 s.size).size := by rw [ext_size]; omega
  have hq2 : (s.extract 1 s.size).size ≤ 100000000000 := by rw [ext_size]; omega
  have HD : Hid ((L (s.extract 1 s.size)).drop 1 = (L s).drop 2) := by unfold Hid; rw [L_from, List.drop_drop]
  have h1' : (1 : Int) < s.size := by omega
  rcases g with g | ⟨g, g2⟩
  · go_enter Tryd.func19, Tryd.ntmps19
    go_wp2_with (first | (go_at_call 34; refine (IndexByte_any _ _ _).mono ?_; rintro e w' ⟨rfl, rfl⟩) | (go_at_call 20; refine (quoted_any (s.extract 1 s.size) _ hq1 hq2).mono ?_; rintro e w1 ⟨rfl, hb⟩; rw [HD.out]; have hqle := quotR_le ((L s).drop 2); rw [List.length_drop, L_len] at hqle; generalize hq : quotR ((L s).drop 2) = q at *; have HQ := Lib.hid hq; clear hq))
    go_ret3
    refine ⟨EscPost_tok (k := 5) (m := q.2.1 + 1) (n := 2 + (quotL ((L s).drop 2)).2.1) (er := q.2.2) ?_ (fun h => ?_), hb⟩
    · rw [← HQ.out, quotR_err]
    · rw [← HQ.out, quotR_err] at h
      rw [← HQ.out, quotR_len _ h]
      omega
  · go_enter Tryd.func19, Tryd.ntmps19
    go_wp2_with (first | (go_at_call 34; refine (IndexByte_any _ _ _).mono ?_; rintro e w' ⟨rfl, rfl⟩) | (go_at_call 20; refine (quoted_any (s.extract 1 s.size) _ hq1 hq2).mono ?_; rintro e w1 ⟨rfl, hb⟩; rw [HD.out]; have hqle := quotR_le ((L s).drop 2); rw [List.length_drop, L_len] at hqle; generalize hq : quotR ((L s).drop 2) = q at *; have HQ := Lib.hid hq; clear hq))
    go_ret3
    refine ⟨EscPost_tok (k := 5) (m := q.2.1 + 1) (n := 2 + (quotL ((L s).drop 2)).2.1) (er := q.2.2) ?_ (fun h => ?_), hb⟩
    · rw [← HQ.out, quotR_err]
    · rw [← HQ.out, quotR_err] at h
      rw [← HQ.out, quotR_len _ h]
      omega

/-- Words. -/
theorem one_word (s : ByteArray) (w : World) (hp : 0 < s.size) (hs : s.size ≤ 100000000000) (g32 : ((s[0].toNat : Int) == 32) = false) (g9 : ((s[0].toNat : Int) == 9) = false) (g10 : ((s[0].toNat : Int) == 10) = false) (g13 : ((s[0].toNat : Int) == 13) = false) (g47 : ((s[0].toNat : Int) == 47) = false) (gp : ¬ 0 ≤ Lib.indexByte (L ⟨#[91, 93, 123, 125, 44, 58]⟩) s[0]) (g34 : ((s[0].toNat : Int) == 34) = false) (g : (((s[0].toNat : Int) == 116) = false ∧ ((s[0].toNat : Int) == 98) = false) ∨ (((((s[0].toNat : Int) == 116) = true) ∨ (((s[0].toNat : Int) == 116) = false ∧ ((s[0].toNat : Int) == 98) = true)) ∧ (s.size ≤ 1 ∨ ∃ h : 1 < s.size, ((s[1].toNat : Int) == 34) = false))) (gw : wordb s[0] = true) :
    Calls Tryd.prog 19 #[.string s] w fun e w' => EscPost (tok 6 (wordL (L s))) e ∧ Below w.heap.size w w' := by
  go_enter Tryd.func19, Tryd.ntmps19
  go_upto_region 18 with (go_at_call 34; refine (IndexByte_any _ _ _).mono ?_; rintro e w' ⟨rfl, rfl⟩)
  go_cut [86] (fun v wx => v = .bool false ∧ wx = w)
  case first =>
    rcases g with ⟨g, g2⟩ | ⟨g | ⟨g, g2⟩, h | ⟨h, h2⟩⟩
    · go_wp2_with fail
      go_meet
      exact ⟨rfl, rfl⟩
    · have h' : (s.size : Int) ≤ 1 := by omega
      go_wp2_with fail
      go_meet
      exact ⟨rfl, rfl⟩
    · have h' : (1 : Int) < s.size := by omega
      go_wp2_with fail
      go_meet
      exact ⟨rfl, rfl⟩
    · have h' : (s.size : Int) ≤ 1 := by omega
      go_wp2_with fail
      go_meet
      exact ⟨rfl, rfl⟩
    · have h' : (1 : Int) < s.size := by omega
      go_wp2_with fail
      go_meet
      exact ⟨rfl, rfl⟩
  case rest =>
    obtain ⟨rfl, rfl⟩ := hcut
    clear g
    go_wp2_with (first | (go_at_call 35; refine (wordByte_any _ _).mono ?_; rintro e w' ⟨rfl, rfl⟩) | (go_at_call 36; refine (word_any s _ hs).mono ?_; rintro e w' ⟨rfl, rfl⟩))
    go_ret3
    exact ⟨EscPost_tok rfl (fun _ => rfl), Below.refl _ _⟩

/-- What is no token. -/
theorem one_none (s : ByteArray) (w : World) (hp : 0 < s.size) (_hs : s.size ≤ 100000000000) (g32 : ((s[0].toNat : Int) == 32) = false) (g9 : ((s[0].toNat : Int) == 9) = false) (g10 : ((s[0].toNat : Int) == 10) = false) (g13 : ((s[0].toNat : Int) == 13) = false) (g47 : ((s[0].toNat : Int) == 47) = false) (gp : ¬ 0 ≤ Lib.indexByte (L ⟨#[91, 93, 123, 125, 44, 58]⟩) s[0]) (g34 : ((s[0].toNat : Int) == 34) = false) (g : (((s[0].toNat : Int) == 116) = false ∧ ((s[0].toNat : Int) == 98) = false) ∨ (((((s[0].toNat : Int) == 116) = true) ∨ (((s[0].toNat : Int) == 116) = false ∧ ((s[0].toNat : Int) == 98) = true)) ∧ (s.size ≤ 1 ∨ ∃ h : 1 < s.size, ((s[1].toNat : Int) == 34) = false))) (gw : wordb s[0] = false) :
    Calls Tryd.prog 19 #[.string s] w fun e w' => EscPost (0, 0, 3) e ∧ Below w.heap.size w w' := by
  go_enter Tryd.func19, Tryd.ntmps19
  go_upto_region 18 with (go_at_call 34; refine (IndexByte_any _ _ _).mono ?_; rintro e w' ⟨rfl, rfl⟩)
  go_cut [86] (fun v wx => v = .bool false ∧ wx = w)
  case first =>
    rcases g with ⟨g, g2⟩ | ⟨g | ⟨g, g2⟩, h | ⟨h, h2⟩⟩
    · go_wp2_with fail
      go_meet
      exact ⟨rfl, rfl⟩
    · have h' : (s.size : Int) ≤ 1 := by omega
      go_wp2_with fail
      go_meet
      exact ⟨rfl, rfl⟩
    · have h' : (1 : Int) < s.size := by omega
      go_wp2_with fail
      go_meet
      exact ⟨rfl, rfl⟩
    · have h' : (s.size : Int) ≤ 1 := by omega
      go_wp2_with fail
      go_meet
      exact ⟨rfl, rfl⟩
    · have h' : (1 : Int) < s.size := by omega
      go_wp2_with fail
      go_meet
      exact ⟨rfl, rfl⟩
  case rest =>
    obtain ⟨rfl, rfl⟩ := hcut
    clear g
    go_wp2_with (go_at_call 35; refine (wordByte_any _ _).mono ?_; rintro e w' ⟨rfl, rfl⟩)
    go_ret3
    exact ⟨EscPost_same rfl, Below.refl _ _⟩

theorem one_any (s : ByteArray) (w : World) (hp : 0 < s.size) (hs : s.size ≤ 100000000000) :
    Calls Tryd.prog 19 #[.string s] w fun e w' => EscPost (oneL (L s)) e ∧ Below w.heap.size w w' := by
  have hX : oneL (L s) = if blank s[0] then (1, spaceLen (L s), 0)
    else if s[0].toNat = 10 ∨ s[0].toNat = 13 then tok 2 (lineL (L s))
    else if s[0].toNat = 47 then tok 3 (comL (L s))
    else if punct s[0] then (4, 1, 0)
    else if s[0].toNat = 34 then tok 5 (1 + (quotL ((L s).drop 1)).2.1, (quotL ((L s).drop 1)).2.2)
    else if (s[0].toNat = 116 ∨ s[0].toNat = 98) ∧ pre ((L s).drop 1) [34] then tok 5 (2 + (quotL ((L s).drop 2)).2.1, (quotL ((L s).drop 2)).2.2)
    else if wordb s[0] then tok 6 (wordL (L s))
    else (0, 0, 3) := by
    have h2 : ((L s).drop 1).drop 1 = (L s).drop 2 := by rw [List.drop_drop]
    rw [← h2]
    obtain ⟨t, ht⟩ : ∃ t, (L s).drop 1 = t := ⟨_, rfl⟩
    have hl : L s = s[0] :: t := by rw [← ht]; exact L_cons0 s hp
    rw [ht, hl]
    rfl
  have hpre : pre ((L s).drop 1) [34] = true ↔ ∃ h : 1 < s.size, s[1].toNat = 34 := by
    by_cases h : 1 < s.size
    · rw [L_drop s 1 h]
      constructor
      · intro hh
        refine ⟨h, ?_⟩
        have : s[1] = 34 := by simpa [pre] using hh
        rw [this]; rfl
      · rintro ⟨_, hh⟩
        have : s[1] = 34 := UInt8.toNat_inj.1 hh
        simp [pre, this]
    · rw [L_drop_nil s 1 (by omega)]
      constructor
      · intro hh; simp [pre] at hh
      · rintro ⟨h', _⟩; exact absurd h' h
  have hix := idx_punct s[0]
  have beqT : ∀ n : Nat, s[0].toNat = n → ((s[0].toNat : Int) == (n : Int)) = true := fun n h => by rw [beq_iff_eq]; omega
  have beqF : ∀ n : Nat, ¬ s[0].toNat = n → ((s[0].toNat : Int) == (n : Int)) = false := fun n h => by rw [beq_eq_false_iff_ne]; omega
  rw [hX]
  by_cases hb : blank s[0] = true
  · rw [if_pos hb]
    refine one_blank s w hp hs hb ?_
    by_cases h : s[0].toNat = 32
    · exact .inl (beqT 32 h)
    · refine .inr ⟨beqF 32 h, beqT 9 ?_⟩
      simpa [blank, h] using hb
  rw [if_neg hb]
  have g32 := beqF 32 (fun h => hb (by simp [blank, h]))
  have g9 := beqF 9 (fun h => hb (by simp [blank, h]))
  by_cases hl : s[0].toNat = 10 ∨ s[0].toNat = 13
  · rw [if_pos hl]
    refine one_line s w hp hs g32 g9 ?_
    by_cases h : s[0].toNat = 10
    · exact .inl (beqT 10 h)
    · exact .inr ⟨beqF 10 h, beqT 13 (by omega)⟩
  rw [if_neg hl]
  have g10 := beqF 10 (fun h => hl (.inl h))
  have g13 := beqF 13 (fun h => hl (.inr h))
  by_cases hc : s[0].toNat = 47
  · rw [if_pos hc]
    exact one_com s w hp hs g32 g9 g10 g13 (beqT 47 hc)
  rw [if_neg hc]
  have g47 := beqF 47 hc
  by_cases hpu : punct s[0] = true
  · rw [if_pos hpu]
    rw [hpu] at hix
    exact one_punct s w hp hs g32 g9 g10 g13 g47 (of_decide_eq_true hix)
  rw [if_neg hpu]
  have gp : ¬ 0 ≤ Lib.indexByte (L ⟨#[91, 93, 123, 125, 44, 58]⟩) s[0] := by
    intro h
    exact hpu (by rw [← hix]; exact decide_eq_true h)
  by_cases hq : s[0].toNat = 34
  · rw [if_pos hq]
    exact one_quot s w hp hs g32 g9 g10 g13 g47 gp (beqT 34 hq)
  rw [if_neg hq]
  have g34 := beqF 34 hq
  by_cases ht : (s[0].toNat = 116 ∨ s[0].toNat = 98) ∧ pre ((L s).drop 1) [34] = true
  · rw [if_pos ht]
    obtain ⟨h1, h2⟩ := hpre.1 ht.2
    refine one_sort s w hp hs g32 g9 g10 g13 g47 gp g34 ?_ h1 (by rw [beq_iff_eq]; omega)
    by_cases h : s[0].toNat = 116
    · exact .inl (beqT 116 h)
    · exact .inr ⟨beqF 116 h, beqT 98 (by omega)⟩
  rw [if_neg ht]
  have g : ((((s[0].toNat : Int) == 116) = false ∧ ((s[0].toNat : Int) == 98) = false) ∨ (((((s[0].toNat : Int) == 116) = true) ∨ (((s[0].toNat : Int) == 116) = false ∧ ((s[0].toNat : Int) == 98) = true)) ∧ (s.size ≤ 1 ∨ ∃ h : 1 < s.size, ((s[1].toNat : Int) == 34) = false))) := by
    by_cases h : s[0].toNat = 116 ∨ s[0].toNat = 98
    · refine .inr ⟨?_, ?_⟩
      · by_cases h' : s[0].toNat = 116
        · exact .inl (beqT 116 h')
        · exact .inr ⟨beqF 116 h', beqT 98 (by omega)⟩
      · by_cases h1 : 1 < s.size
        · refine .inr ⟨h1, ?_⟩
          rw [beq_eq_false_iff_ne]
          intro h2
          exact ht ⟨h, hpre.2 ⟨h1, by omega⟩⟩
        · exact .inl (by omega)
    · exact .inl ⟨beqF 116 (fun h' => h (.inl h')), beqF 98 (fun h' => h (.inr h'))⟩
  cases hw : wordb s[0]
  · exact one_none s w hp hs g32 g9 g10 g13 g47 gp g34 g hw
  · exact one_word s w hp hs g32 g9 g10 g13 g47 gp g34 g hw

end Go.Proofs.YtmafggfonapmpaaDoor
