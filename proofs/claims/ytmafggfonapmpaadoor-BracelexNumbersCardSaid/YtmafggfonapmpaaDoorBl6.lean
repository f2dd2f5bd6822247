/- The package bracelex, walked: escapes. Conditions: strings of at most 10^11 bytes. -/
import Derived.Test.YtmafggfonapmpaaDoorBl5
import Derived.Test.YtmafggfonapmpaaDoorEnc
namespace Go.Proofs.YtmafggfonapmpaaDoor
open Go.RowKit
set_option maxHeartbeats 1000000
set_option maxRecDepth 100000

/-- What escape hands back: the number and the length count only without an error. -/
def EscPost (x : Nat × Nat × Nat) (e : Ending) : Prop :=
  ∃ r n : Nat, e = .returned (.tuple #[.int .i64 r, .int .i64 n, .int .i64 x.2.2]) ∧ (x.2.2 = 0 → r = x.1 ∧ n = x.2.1)
theorem EscPost_mk {x : Nat × Nat × Nat} {r n k : Nat} (h : x.2.2 = k) (h2 : k = 0 → r = x.1 ∧ n = x.2.1) : EscPost x (.returned (.tuple #[.int .i64 r, .int .i64 n, .int .i64 k])) := by
  subst h
  exact ⟨r, n, rfl, h2⟩
theorem EscPost_ok {x : Nat × Nat × Nat} {a b : Int} (h0 : x.2.2 = 0) (ha : a = x.1) (hb : b = x.2.1) : EscPost x (.returned (.tuple #[.int .i64 a, .int .i64 b, .int .i64 0])) :=
  ⟨x.1, x.2.1, by rw [ha, hb, h0]; rfl, fun _ => ⟨rfl, rfl⟩⟩
theorem hexN_err (k n : Nat) (l : List UInt8) : (hexN k n l).2 ≠ 0 → (hexN k n l).1 = 0 := by
  induction k generalizing n l with
  | zero => intro h; exact absurd rfl h
  | succ k ih =>
    cases l with
    | nil => intro _; rfl
    | cons b t =>
      unfold hexN
      cases hexv b with
      | none => intro _; rfl
      | some d => exact ih _ _
theorem hexN_len : ∀ (k n : Nat) (l : List UInt8), (hexN k n l).2 = 0 → k ≤ l.length
  | 0, _, _, _ => Nat.zero_le _
  | k + 1, n, [], h => by simp [hexN] at h
  | k + 1, n, b :: t, h => by
    unfold hexN at h
    cases hv : hexv b with
    | none => rw [hv] at h; simp at h
    | some d =>
      rw [hv] at h
      have := hexN_len k _ t h
      simp; omega
theorem hex4_lt (l : List UInt8) : (hexN 4 0 l).1 < 65536 := hexN_lt 4 0 l
/-- An escape without an error stands for a character, and takes bytes that are there. -/
theorem escL_ok (l : List UInt8) (h : (escL l).2.2 = 0) : scal (escL l).1 = true ∧ 1 ≤ (escL l).2.1 ∧ (escL l).2.1 ≤ l.length := by
  rcases l with _ | ⟨c, t⟩
  · simp [escL] at h
  unfold escL at h ⊢
  by_cases hu : c.toNat = 117
  · simp only [hu, if_true] at h ⊢
    unfold uniEsc at h ⊢
    have hl := hex4_lt t
    by_cases h1 : (hexN 4 0 t).2 = 0
    · have hlen := hexN_len 4 0 t h1
      simp only [h1, ne_eq, not_true_eq_false, if_false] at h ⊢
      by_cases h2 : (hexN 4 0 t).1 < 55296 ∨ 57343 < (hexN 4 0 t).1
      · simp only [h2, if_true] at h ⊢
        refine ⟨by simp [scal]; omega, by omega, by simp; omega⟩
      · simp only [h2, if_false] at h ⊢
        by_cases h3 : 56319 < (hexN 4 0 t).1
        · simp [h3] at h
        · simp only [h3, if_false] at h ⊢
          rcases hd : t.drop 4 with _ | ⟨x, _ | ⟨y, t3⟩⟩
          · simp [hd] at h
          · simp only [hd] at h
            split at h <;> simp at h
          · simp only [hd] at h ⊢
            by_cases h4 : x.toNat = 92
            · simp only [h4, not_true_eq_false, if_false] at h ⊢
              by_cases h5 : y.toNat = 117
              · simp only [h5, not_true_eq_false, if_false] at h ⊢
                by_cases h6 : (hexN 4 0 t3).2 = 0
                · have hlen3 := hexN_len 4 0 t3 h6
                  have hl3 := hex4_lt t3
                  simp only [h6, not_true_eq_false, if_false] at h ⊢
                  by_cases h7 : (hexN 4 0 t3).1 < 56320 ∨ 57343 < (hexN 4 0 t3).1
                  · simp [h7] at h
                  · simp only [h7, if_false] at h ⊢
                    have := congrArg List.length hd
                    simp only [List.length_drop, List.length_cons] at this
                    refine ⟨by simp [scal]; omega, by omega, by simp; omega⟩
                · simp [h6] at h
              · simp [h5] at h
            · simp [h4] at h
    · simp [h1] at h
  · simp only [hu, if_false] at h ⊢
    cases hs : simpleEsc c with
    | none => simp [hs] at h
    | some r =>
      have : r < 128 := by
        unfold simpleEsc at hs
        repeat' split at hs
        all_goals first | (cases hs; decide) | cases hs
      refine ⟨by simp [scal]; omega, by simp, by simp⟩

theorem idx_esc (c : UInt8) : Lib.indexByte (L ⟨#[34, 92, 47, 98, 102, 110, 114, 116]⟩) c = if c.toNat = 34 then 0 else if c.toNat = 92 then 1 else if c.toNat = 47 then 2 else if c.toNat = 98 then 3 else if c.toNat = 102 then 4 else if c.toNat = 110 then 5 else if c.toNat = 114 then 6 else if c.toNat = 116 then 7 else -1 := by
  have h : ∀ n : Fin 256, Lib.indexByte (L ⟨#[34, 92, 47, 98, 102, 110, 114, 116]⟩) (UInt8.ofNat n.val) = if n.val = 34 then 0 else if n.val = 92 then 1 else if n.val = 47 then 2 else if n.val = 98 then 3 else if n.val = 102 then 4 else if n.val = 110 then 5 else if n.val = 114 then 6 else if n.val = 116 then 7 else -1 := by decide +kernel
  have := h ⟨c.toNat, c.toNat_lt⟩
  simpa using this
theorem esc_any (s : ByteArray) (w : World) (hs : s.size ≤ 100000000000) :
    Calls Tryd.prog 37 #[.string s] w fun e w' => EscPost (escL (L s)) e ∧ Below w.heap.size w w' := by
  by_cases he : L s = []
  · have he1 : s.toList.isEmpty = true := by rw [empty_L]; simpa using he
    have HF : Hid (escL (L s) = (0, 0, 4)) := by unfold Hid; rw [he]; rfl
    clear he
    go_enter Tryd.func37, Tryd.ntmps37
    go_wp2_with fail
    go_ret3
    exact ⟨by rw [HF.out]; exact EscPost_mk rfl (by simp), Below.refl _ _⟩
  have he1 : s.toList.isEmpty = false := by rw [empty_L]; simpa using he
  have hp := size_pos he
  have hX : Hid (escL (L s) = if s[0].toNat = 117 then uniEsc ((L s).drop 1) else match simpleEsc s[0] with | some r => (r, 1, 0) | none => (0, 0, 3)) := by
    unfold Hid; rw [L_cons0 s hp]; rfl
  clear he
  by_cases hu : s[0].toNat = 117
  · have g : ((s[0].toNat : Int) != 117) = false := by rw [bne_eq_false_iff_eq]; omega
    have hX2 : Hid (escL (L s) = uniEsc (L (s.extract 1 s.size))) := by unfold Hid; rw [hX.out, if_pos hu, L_from]
    have hL1 : Hid (∀ k, (L (s.extract 1 s.size)).drop k = (L s).drop (1 + k)) := by unfold Hid; intro k; rw [L_from, List.drop_drop]
    clear hX hu
    have hle : (1 : Int) ≤ s.size := by omega
    have hm1 : (s.extract 1 s.size).size ≤ maxLen := by rw [ext_size]; simp only [maxLen]; omega
    have hm7 : (s.extract 7 s.size).size ≤ maxLen := by rw [ext_size]; simp only [maxLen]; omega
    have hlen := hexN_len 4 0 (L (s.extract 1 s.size))
    rw [L_len, ext_size] at hlen
    have HLEN := Lib.hid hlen; clear hlen
    by_cases hz : (hexN 4 0 (L (s.extract 1 s.size))).2 = 0
    case neg =>
      have HF : Hid ((escL (L s)).2.2 = (hexN 4 0 (L (s.extract 1 s.size))).2) := by unfold Hid; rw [hX2.out, uniEsc, if_pos hz]
      have e1 : (((hexN 4 0 (L (s.extract 1 s.size))).2 : Int) != 0) = true := by rw [bne_iff_ne]; omega
      have HZ := Lib.hid hz; clear hz hX2
      go_enter Tryd.func37, Tryd.ntmps37
      go_wp2_with (go_at_call 52; refine (hex_any _ _ hm1).mono ?_; rintro e w' ⟨rfl, rfl⟩)
      go_ret3
      exact ⟨EscPost_mk HF.out (fun h => absurd h HZ.out), Below.refl _ _⟩
    have HL := HLEN.out hz
    have e1 : (((hexN 4 0 (L (s.extract 1 s.size))).2 : Int) != 0) = false := by rw [bne_eq_false_iff_eq]; omega
    have hY : Hid (escL (L s) = if (hexN 4 0 (L (s.extract 1 s.size))).1 < 55296 ∨ 57343 < (hexN 4 0 (L (s.extract 1 s.size))).1 then ((hexN 4 0 (L (s.extract 1 s.size))).1, 5, 0) else if 56319 < (hexN 4 0 (L (s.extract 1 s.size))).1 then (0, 0, 5) else match (L s).drop 5 with
        | [] => (0, 0, 4)
        | c :: t2 => if c.toNat ≠ 92 then (0, 0, 5) else match t2 with
          | [] => (0, 0, 4)
          | d :: t3 => if d.toNat ≠ 117 then (0, 0, 5)
            else if (hexN 4 0 t3).2 ≠ 0 then (0, 0, (hexN 4 0 t3).2)
            else if (hexN 4 0 t3).1 < 56320 ∨ 57343 < (hexN 4 0 t3).1 then (0, 0, 5)
            else (65536 + ((hexN 4 0 (L (s.extract 1 s.size))).1 - 55296) * 1024 + (hexN 4 0 t3).1 - 56320, 11, 0)) := by
      unfold Hid
      rw [hX2.out, uniEsc, if_neg (by simp [hz]), show (L (s.extract 1 s.size)).drop 4 = (L s).drop 5 from hL1.out 4]
      rfl
    have HZ := Lib.hid hz; clear hz hX2 hL1 HLEN
    go_enter Tryd.func37, Tryd.ntmps37
    go_wp2_with fail
    refine (hex_any _ _ hm1).mono ?_
    rintro e w' ⟨rfl, rfl⟩
    generalize (hexN 4 0 (L (s.extract 1 s.size))).2 = er at *
    obtain rfl := HZ.out
    clear e1 HZ
    generalize (hexN 4 0 (L (s.extract 1 s.size))).1 = a at *
    by_cases h1 : a < 55296
    · have q : (a : Int) < 55296 := by omega
      have HF : Hid (escL (L s) = (a, 5, 0)) := by unfold Hid; rw [hY.out, if_pos (.inl h1)]
      clear h1 hY
      go_wp2_with fail
      go_ret3
      exact ⟨by rw [HF.out]; exact EscPost_ok rfl rfl rfl, Below.refl _ _⟩
    have q1 : ¬ (a : Int) < 55296 := by omega
    by_cases h2 : 57343 < a
    · have q : (57343 : Int) < a := by omega
      have HF : Hid (escL (L s) = (a, 5, 0)) := by unfold Hid; rw [hY.out, if_pos (.inr h2)]
      clear h1 h2 hY
      go_wp2_with fail
      go_ret3
      exact ⟨by rw [HF.out]; exact EscPost_ok rfl rfl rfl, Below.refl _ _⟩
    have q2 : ¬ (57343 : Int) < a := by omega
    by_cases h3 : 56319 < a
    · have q : (56319 : Int) < a := by omega
      have HF : Hid (escL (L s) = (0, 0, 5)) := by unfold Hid; rw [hY.out, if_neg (by omega), if_pos h3]
      clear h1 h2 h3 hY
      go_wp2_with fail
      go_ret3
      exact ⟨by rw [HF.out]; exact EscPost_mk rfl (by simp), Below.refl _ _⟩
    have q3 : ¬ (56319 : Int) < a := by omega
    have hY1 : Hid (escL (L s) = match (L s).drop 5 with
        | [] => (0, 0, 4)
        | c :: t2 => if c.toNat ≠ 92 then (0, 0, 5) else match t2 with
          | [] => (0, 0, 4)
          | d :: t3 => if d.toNat ≠ 117 then (0, 0, 5)
            else if (hexN 4 0 t3).2 ≠ 0 then (0, 0, (hexN 4 0 t3).2)
            else if (hexN 4 0 t3).1 < 56320 ∨ 57343 < (hexN 4 0 t3).1 then (0, 0, 5)
            else (65536 + (a - 55296) * 1024 + (hexN 4 0 t3).1 - 56320, 11, 0)) := by
      unfold Hid; rw [hY.out, if_neg (by omega), if_neg h3]
    clear h1 h2 h3 hY
    have hcv := conv_mark2
    have hc0 : (w.alloc (.cells #[.int .u8 92, .int .u8 117] 5 (2, 3))).cell? ⟨w.heap.size, 0, none⟩ = some (.int .u8 92) := World.cell?_alloc_mark w _ _ _ 0
    have hc1 : (w.alloc (.cells #[.int .u8 92, .int .u8 117] 5 (2, 3))).cell? ⟨w.heap.size, 1, none⟩ = some (.int .u8 117) := World.cell?_alloc_mark w _ _ _ 1
    go_wp2_with fail
    refine wp_loop_rounds 3 ?_
    rw [rounds_succ]
    by_cases k5 : s.size ≤ 5
    · have q : (s.size : Int) ≤ 5 := by omega
      have HF : Hid (escL (L s) = (0, 0, 4)) := by unfold Hid; rw [hY1.out, L_drop_nil s 5 k5]
      clear k5 hY1
      go_wp2_with fail
      go_ret3
      exact ⟨by rw [HF.out]; exact EscPost_mk rfl (by simp), (Below.refl _ _).alloc (Nat.le_refl _) _⟩
    have p5 : 5 < s.size := by omega
    by_cases c5 : s[5].toNat = 92
    case neg =>
      have q : ((s[5].toNat : Int) != 92) = true := by rw [bne_iff_ne]; omega
      have HF : Hid (escL (L s) = (0, 0, 5)) := by unfold Hid; rw [hY1.out, L_drop s 5 p5]; simp only; rw [if_pos c5]
      clear k5 c5 hY1
      go_wp2_with fail
      go_ret3
      exact ⟨by rw [HF.out]; exact EscPost_mk rfl (by simp), (Below.refl _ _).alloc (Nat.le_refl _) _⟩
    have g5 : ((s[5].toNat : Int) != 92) = false := by rw [bne_eq_false_iff_eq]; omega
    have hY2 : Hid (escL (L s) = match (L s).drop 6 with
          | [] => (0, 0, 4)
          | d :: t3 => if d.toNat ≠ 117 then (0, 0, 5)
            else if (hexN 4 0 t3).2 ≠ 0 then (0, 0, (hexN 4 0 t3).2)
            else if (hexN 4 0 t3).1 < 56320 ∨ 57343 < (hexN 4 0 t3).1 then (0, 0, 5)
            else (65536 + (a - 55296) * 1024 + (hexN 4 0 t3).1 - 56320, 11, 0)) := by
      unfold Hid; rw [hY1.out, L_drop s 5 p5]; simp only; rw [if_neg (by simpa using c5)]
    clear k5 c5 hY1
    go_wp2_with fail
    rw [rounds_succ]
    by_cases k6 : s.size ≤ 6
    · have q : (s.size : Int) ≤ 6 := by omega
      have HF : Hid (escL (L s) = (0, 0, 4)) := by unfold Hid; rw [hY2.out, L_drop_nil s 6 k6]
      clear k6 hY2
      go_wp2_with fail
      go_ret3
      exact ⟨by rw [HF.out]; exact EscPost_mk rfl (by simp), (Below.refl _ _).alloc (Nat.le_refl _) _⟩
    have p6 : 6 < s.size := by omega
    by_cases c6 : s[6].toNat = 117
    case neg =>
      have q : ((s[6].toNat : Int) != 117) = true := by rw [bne_iff_ne]; omega
      have HF : Hid (escL (L s) = (0, 0, 5)) := by unfold Hid; rw [hY2.out, L_drop s 6 p6]; simp only; rw [if_pos c6]
      clear k6 c6 hY2
      go_wp2_with fail
      go_ret3
      exact ⟨by rw [HF.out]; exact EscPost_mk rfl (by simp), (Below.refl _ _).alloc (Nat.le_refl _) _⟩
    have g6 : ((s[6].toNat : Int) != 117) = false := by rw [bne_eq_false_iff_eq]; omega
    have hY3 : Hid (escL (L s) = if (hexN 4 0 (L (s.extract 7 s.size))).2 ≠ 0 then (0, 0, (hexN 4 0 (L (s.extract 7 s.size))).2)
            else if (hexN 4 0 (L (s.extract 7 s.size))).1 < 56320 ∨ 57343 < (hexN 4 0 (L (s.extract 7 s.size))).1 then (0, 0, 5)
            else (65536 + (a - 55296) * 1024 + (hexN 4 0 (L (s.extract 7 s.size))).1 - 56320, 11, 0)) := by
      unfold Hid; rw [hY2.out, L_drop s 6 p6, L_from]; simp only; rw [if_neg (by simpa using c6)]
    clear k6 c6 hY2
    go_wp2_with fail
    rw [rounds_succ]
    go_wp2_with fail
    refine (hex_any _ _ hm7).mono ?_
    rintro e w' ⟨rfl, rfl⟩
    have hl7 := hex4_lt (L (s.extract 7 s.size))
    have HL7 := Lib.hid hl7; clear hl7
    generalize (hexN 4 0 (L (s.extract 7 s.size))).2 = er at *
    generalize (hexN 4 0 (L (s.extract 7 s.size))).1 = b at *
    have hbel : Below w.heap.size w (w.alloc (.cells #[.int .u8 92, .int .u8 117] 5 (2, 3))) := (Below.refl _ _).alloc (Nat.le_refl _) _
    by_cases hz : er = 0
    case neg =>
      have e1 : ((er : Int) != 0) = true := by rw [bne_iff_ne]; omega
      have HF : Hid (escL (L s) = (0, 0, er)) := by unfold Hid; rw [hY3.out, if_pos hz]
      have HZ := Lib.hid hz; clear hz hY3
      go_wp2_with fail
      go_ret3
      exact ⟨by rw [HF.out]; exact EscPost_mk rfl (fun h => absurd h HZ.out), hbel⟩
    subst hz
    by_cases h1 : b < 56320
    · have q : (b : Int) < 56320 := by omega
      have HF : Hid (escL (L s) = (0, 0, 5)) := by unfold Hid; rw [hY3.out, if_neg (by simp), if_pos (.inl h1)]
      clear h1 hY3
      go_wp2_with fail
      go_ret3
      exact ⟨by rw [HF.out]; exact EscPost_mk rfl (by simp), hbel⟩
    have r1 : ¬ (b : Int) < 56320 := by omega
    by_cases h2 : 57343 < b
    · have q : (57343 : Int) < b := by omega
      have HF : Hid (escL (L s) = (0, 0, 5)) := by unfold Hid; rw [hY3.out, if_neg (by simp), if_pos (.inr h2)]
      clear h1 h2 hY3
      go_wp2_with fail
      go_ret3
      exact ⟨by rw [HF.out]; exact EscPost_mk rfl (by simp), hbel⟩
    have r2 : ¬ (57343 : Int) < b := by omega
    have HF : Hid (escL (L s) = (65536 + (a - 55296) * 1024 + b - 56320, 11, 0)) := by unfold Hid; rw [hY3.out, if_neg (by simp), if_neg (by omega)]
    have HR : Hid ((65536 : Int) + ((a : Int) - 55296) * 1024 + b - 56320 = ((65536 + (a - 55296) * 1024 + b - 56320 : Nat) : Int)) := by unfold Hid; omega
    clear h1 h2 hY3
    go_wp2_with fail
    go_ret3
    refine ⟨by rw [HF.out]; exact EscPost_ok rfl HR.out rfl, hbel⟩
  have g : ((s[0].toNat : Int) != 117) = true := by rw [bne_iff_ne]; omega
  have hX2 : Hid (escL (L s) = match simpleEsc s[0] with | some r => (r, 1, 0) | none => (0, 0, 3)) := by unfold Hid; rw [hX.out, if_neg hu]
  clear hX hu
  have hidx := idx_esc s[0]
  by_cases h34 : s[0].toNat = 34
  · have HF : Hid (escL (L s) = (34, 1, 0)) := by unfold Hid; rw [hX2.out]; unfold simpleEsc; simp [h34]
    have hi : Lib.indexByte (L ⟨#[34, 92, 47, 98, 102, 110, 114, 116]⟩) s[0] = 0 := by rw [hidx]; simp [h34]
    clear hidx hX2 h34
    go_enter Tryd.func37, Tryd.ntmps37
    go_wp2_with (go_at_call 34; refine (IndexByte_any _ _ _).mono ?_; rintro e w' ⟨rfl, rfl⟩; rw [hi])
    go_ret3
    exact ⟨by rw [HF.out]; exact EscPost_ok rfl (IntWalk.wrap64_in _ (by decide)) rfl, Below.refl _ _⟩
  by_cases h92 : s[0].toNat = 92
  · have HF : Hid (escL (L s) = (92, 1, 0)) := by unfold Hid; rw [hX2.out]; unfold simpleEsc; simp [h92]
    have hi : Lib.indexByte (L ⟨#[34, 92, 47, 98, 102, 110, 114, 116]⟩) s[0] = 1 := by rw [hidx]; simp [h92]
    clear hidx hX2 h34 h92
    go_enter Tryd.func37, Tryd.ntmps37
    go_wp2_with (go_at_call 34; refine (IndexByte_any _ _ _).mono ?_; rintro e w' ⟨rfl, rfl⟩; rw [hi])
    go_ret3
    exact ⟨by rw [HF.out]; exact EscPost_ok rfl (IntWalk.wrap64_in _ (by decide)) rfl, Below.refl _ _⟩
  by_cases h47 : s[0].toNat = 47
  · have HF : Hid (escL (L s) = (47, 1, 0)) := by unfold Hid; rw [hX2.out]; unfold simpleEsc; simp [h47]
    have hi : Lib.indexByte (L ⟨#[34, 92, 47, 98, 102, 110, 114, 116]⟩) s[0] = 2 := by rw [hidx]; simp [h47]
    clear hidx hX2 h34 h92 h47
    go_enter Tryd.func37, Tryd.ntmps37
    go_wp2_with (go_at_call 34; refine (IndexByte_any _ _ _).mono ?_; rintro e w' ⟨rfl, rfl⟩; rw [hi])
    go_ret3
    exact ⟨by rw [HF.out]; exact EscPost_ok rfl (IntWalk.wrap64_in _ (by decide)) rfl, Below.refl _ _⟩
  by_cases h98 : s[0].toNat = 98
  · have HF : Hid (escL (L s) = (8, 1, 0)) := by unfold Hid; rw [hX2.out]; unfold simpleEsc; simp [h98]
    have hi : Lib.indexByte (L ⟨#[34, 92, 47, 98, 102, 110, 114, 116]⟩) s[0] = 3 := by rw [hidx]; simp [h98]
    clear hidx hX2 h34 h92 h47 h98
    go_enter Tryd.func37, Tryd.ntmps37
    go_wp2_with (go_at_call 34; refine (IndexByte_any _ _ _).mono ?_; rintro e w' ⟨rfl, rfl⟩; rw [hi])
    go_ret3
    exact ⟨by rw [HF.out]; exact EscPost_ok rfl (IntWalk.wrap64_in _ (by decide)) rfl, Below.refl _ _⟩
  by_cases h102 : s[0].toNat = 102
  · have HF : Hid (escL (L s) = (12, 1, 0)) := by unfold Hid; rw [hX2.out]; unfold simpleEsc; simp [h102]
    have hi : Lib.indexByte (L ⟨#[34, 92, 47, 98, 102, 110, 114, 116]⟩) s[0] = 4 := by rw [hidx]; simp [h102]
    clear hidx hX2 h34 h92 h47 h98 h102
    go_enter Tryd.func37, Tryd.ntmps37
    go_wp2_with (go_at_call 34; refine (IndexByte_any _ _ _).mono ?_; rintro e w' ⟨rfl, rfl⟩; rw [hi])
    go_ret3
    exact ⟨by rw [HF.out]; exact EscPost_ok rfl (IntWalk.wrap64_in _ (by decide)) rfl, Below.refl _ _⟩
  by_cases h110 : s[0].toNat = 110
  · have HF : Hid (escL (L s) = (10, 1, 0)) := by unfold Hid; rw [hX2.out]; unfold simpleEsc; simp [h110]
    have hi : Lib.indexByte (L ⟨#[34, 92, 47, 98, 102, 110, 114, 116]⟩) s[0] = 5 := by rw [hidx]; simp [h110]
    clear hidx hX2 h34 h92 h47 h98 h102 h110
    go_enter Tryd.func37, Tryd.ntmps37
    go_wp2_with (go_at_call 34; refine (IndexByte_any _ _ _).mono ?_; rintro e w' ⟨rfl, rfl⟩; rw [hi])
    go_ret3
    exact ⟨by rw [HF.out]; exact EscPost_ok rfl (IntWalk.wrap64_in _ (by decide)) rfl, Below.refl _ _⟩
  by_cases h114 : s[0].toNat = 114
  · have HF : Hid (escL (L s) = (13, 1, 0)) := by unfold Hid; rw [hX2.out]; unfold simpleEsc; simp [h114]
    have hi : Lib.indexByte (L ⟨#[34, 92, 47, 98, 102, 110, 114, 116]⟩) s[0] = 6 := by rw [hidx]; simp [h114]
    clear hidx hX2 h34 h92 h47 h98 h102 h110 h114
    go_enter Tryd.func37, Tryd.ntmps37
    go_wp2_with (go_at_call 34; refine (IndexByte_any _ _ _).mono ?_; rintro e w' ⟨rfl, rfl⟩; rw [hi])
    go_ret3
    exact ⟨by rw [HF.out]; exact EscPost_ok rfl (IntWalk.wrap64_in _ (by decide)) rfl, Below.refl _ _⟩
  by_cases h116 : s[0].toNat = 116
  · have HF : Hid (escL (L s) = (9, 1, 0)) := by unfold Hid; rw [hX2.out]; unfold simpleEsc; simp [h116]
    have hi : Lib.indexByte (L ⟨#[34, 92, 47, 98, 102, 110, 114, 116]⟩) s[0] = 7 := by rw [hidx]; simp [h116]
    clear hidx hX2 h34 h92 h47 h98 h102 h110 h114 h116
    go_enter Tryd.func37, Tryd.ntmps37
    go_wp2_with (go_at_call 34; refine (IndexByte_any _ _ _).mono ?_; rintro e w' ⟨rfl, rfl⟩; rw [hi])
    go_ret3
    exact ⟨by rw [HF.out]; exact EscPost_ok rfl (IntWalk.wrap64_in _ (by decide)) rfl, Below.refl _ _⟩
  have HF : Hid (escL (L s) = (0, 0, 3)) := by unfold Hid; rw [hX2.out]; unfold simpleEsc; simp [h34, h92, h47, h98, h102, h110, h114, h116]
  have hi : Lib.indexByte (L ⟨#[34, 92, 47, 98, 102, 110, 114, 116]⟩) s[0] = -1 := by rw [hidx]; simp [h34, h92, h47, h98, h102, h110, h114, h116]
  clear hidx hX2 h34 h92 h47 h98 h102 h110 h114 h116
  go_enter Tryd.func37, Tryd.ntmps37
  go_wp2_with (go_at_call 34; refine (IndexByte_any _ _ _).mono ?_; rintro e w' ⟨rfl, rfl⟩; rw [hi])
  go_ret3
  exact ⟨by rw [HF.out]; exact EscPost_mk rfl (by simp), Below.refl _ _⟩
end Go.Proofs.YtmafggfonapmpaaDoor
