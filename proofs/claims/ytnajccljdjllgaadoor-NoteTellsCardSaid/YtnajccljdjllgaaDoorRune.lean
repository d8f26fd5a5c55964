/- The walk of jotterref3.rune1, at a byte that leads. -/
import Derived.Test.YtnajccljdjllgaaDoorName
set_option linter.unusedVariables false
set_option linter.unusedSimpArgs false
namespace Go.Proofs.YtnajccljdjllgaaDoor
open Go.RowKit Go.Lib
theorem rune1_val (s : ByteArray) (i : Nat) (hi : i < s.size) (a b : Int) (n m : Nat) (h : ref1 (s.size - i) (byteAt s i) (byteAt s (i + 1)) (byteAt s (i + 2)) (byteAt s (i + 3)) = (n, m)) (ha : a = n) (hb : b = m) :
    Ending.returned (.tuple #[.int .i64 a, .int .i64 b]) = .returned (.tuple #[.int .i64 (rune s i).1, .int .i64 (rune s i).2]) := by
  rw [rune_ref s i hi]
  unfold byteAt at h
  rw [h, ha, hb]
/-- What rune1's loop has reckoned behind k bytes. -/
def Inv1 (b1 b2 b3 r0 : Int) (k : Nat) (r : Int) : Prop :=
  (k = 1 ∧ r = r0) ∨ (k = 2 ∧ 128 ≤ b1 ∧ b1 ≤ 191 ∧ r = r0 * 64 + b1 - 128) ∨ (k = 3 ∧ 128 ≤ b1 ∧ b1 ≤ 191 ∧ 128 ≤ b2 ∧ b2 ≤ 191 ∧ r = (r0 * 64 + b1 - 128) * 64 + b2 - 128) ∨
    (k = 4 ∧ 128 ≤ b1 ∧ b1 ≤ 191 ∧ 128 ≤ b2 ∧ b2 ≤ 191 ∧ 128 ≤ b3 ∧ b3 ≤ 191 ∧ r = ((r0 * 64 + b1 - 128) * 64 + b2 - 128) * 64 + b3 - 128)
theorem inv1_bd {b1 b2 b3 r0 : Int} {k : Nat} {r : Int} (h : Inv1 b1 b2 b3 r0 k r) (h0 : 0 ≤ r0) (h1 : r0 < 32) : 0 ≤ r ∧ r < 8388608 := by
  unfold Inv1 at h; omega
def byteK (b1 b2 b3 : Int) (k : Nat) : Int := if k = 1 then b1 else if k = 2 then b2 else b3
theorem byteK_at (s : ByteArray) (i k : Nat) (h1 : 1 ≤ k) (h2 : k ≤ 3) : (byteAt s (i + k) : Int) = byteK (byteAt s (i + 1)) (byteAt s (i + 2)) (byteAt s (i + 3)) k := by
  unfold byteK
  rcases (by omega : k = 1 ∨ k = 2 ∨ k = 3) with rfl | rfl | rfl <;> rfl
theorem inv1_pos {b1 b2 b3 r0 : Int} {k : Nat} {r : Int} (h : Inv1 b1 b2 b3 r0 k r) : 1 ≤ k ∧ k ≤ 4 := by unfold Inv1 at h; omega
theorem inv1_step {b1 b2 b3 r0 : Int} {k : Nat} {r x : Int} (h : Inv1 b1 b2 b3 r0 k r) (hk : k ≤ 3) (hx : x = byteK b1 b2 b3 k) (h1 : 128 ≤ x) (h2 : x ≤ 191) : Inv1 b1 b2 b3 r0 (k + 1) (r * 64 + x - 128) := by
  unfold Inv1 at h ⊢
  unfold byteK at hx
  rcases h with h | h | h | h
  · obtain ⟨rfl, rfl⟩ := h; simp at hx; subst hx; exact .inr (.inl ⟨rfl, h1, h2, rfl⟩)
  · obtain ⟨rfl, g1, g2, rfl⟩ := h; simp at hx; subst hx; exact .inr (.inr (.inl ⟨rfl, g1, g2, h1, h2, rfl⟩))
  · obtain ⟨rfl, g1, g2, g3, g4, rfl⟩ := h; simp at hx; subst hx; exact .inr (.inr (.inr ⟨rfl, g1, g2, g3, g4, h1, h2, rfl⟩))
  · omega
/-- c leads a rune of n bytes. -/
def Lead (c n : Nat) : Prop := (194 ≤ c ∧ c < 224 ∧ n = 2) ∨ (224 ≤ c ∧ c < 240 ∧ n = 3) ∨ (240 ≤ c ∧ c < 245 ∧ n = 4)
/-- No rune is whole where the k-th byte is no continuation. -/
theorem ref1_bad (m c b1 b2 b3 n : Nat) (k : Nat) (hn : Lead c n) (h1 : 1 ≤ k) (hk : k < n) (hx : byteK b1 b2 b3 k < 128 ∨ 191 < byteK b1 b2 b3 k) : ref1 m c b1 b2 b3 = (0, 0) := by
  unfold Lead at hn
  have hx' : (k = 1 ∧ ¬ b1 / 64 = 2) ∨ (k = 2 ∧ ¬ b2 / 64 = 2) ∨ (k = 3 ∧ ¬ b3 / 64 = 2) := by
    unfold byteK at hx
    rcases (by omega : k = 1 ∨ k = 2 ∨ k = 3) with rfl | rfl | rfl <;> simp at hx <;> omega
  unfold ref1
  repeat' split
  all_goals first | rfl | (exfalso; omega)
theorem ref1_short (m c b1 b2 b3 n : Nat) (hn : Lead c n) (hm : m < n) : ref1 m c b1 b2 b3 = (0, 0) := by
  unfold Lead at hn
  unfold ref1
  repeat' split
  all_goals first | rfl | (exfalso; omega)
/-- Behind the loop: all bytes are there. -/
theorem ref1_end (m c b1 b2 b3 n : Nat) (r0 low : Int) (r : Int) (hn : (194 ≤ c ∧ c < 224 ∧ n = 2 ∧ r0 = c - 192 ∧ low = 128) ∨ (224 ≤ c ∧ c < 240 ∧ n = 3 ∧ r0 = c - 224 ∧ low = 2048) ∨ (240 ≤ c ∧ c < 245 ∧ n = 4 ∧ r0 = c - 240 ∧ low = 65536)) (hm : n ≤ m) (hI : Inv1 b1 b2 b3 r0 n r) :
    ref1 m c b1 b2 b3 = if r < low ∨ 1114111 < r ∨ (55296 ≤ r ∧ r ≤ 57343) then (0, 0) else (r.toNat, n) := by
  unfold Inv1 at hI
  unfold ref1
  rcases hn with ⟨h1, h2, rfl, rfl, rfl⟩ | ⟨h1, h2, rfl, rfl, rfl⟩ | ⟨h1, h2, rfl, rfl, rfl⟩
  · rw [if_neg (by omega), if_pos (by omega), if_pos (by omega)]
    have e : r = ((c - 192) * 64 + b1 % 64 : Nat) := by omega
    rw [e]
    split
    · rw [if_neg (by omega)]; rfl
    · rw [if_pos (by omega)]
  · rw [if_neg (by omega), if_neg (by omega), if_pos (by omega), if_pos (by omega)]
    have e : r = ((c - 224) * 4096 + b1 % 64 * 64 + b2 % 64 : Nat) := by omega
    rw [e]
    split
    · rw [if_neg (by omega)]; rfl
    · rw [if_pos (by omega)]
  · rw [if_neg (by omega), if_neg (by omega), if_neg (by omega), if_pos (by omega), if_pos (by omega)]
    have e : r = ((c - 240) * 262144 + b1 % 64 * 4096 + b2 % 64 * 64 + b3 % 64 : Nat) := by omega
    rw [e]
    split
    · rw [if_neg (by omega)]; rfl
    · rw [if_pos (by omega)]
set_option maxRecDepth 100000 in
set_option maxHeartbeats 1000000 in
theorem rune1_2 (s : ByteArray) (i : Nat) (w : World) (hi : i < s.size) (hs : s.size ≤ 1000000000) (c1 : 194 ≤ (s[i].toNat : Int)) (c2 : (s[i].toNat : Int) < 224) :
    Calls Tryd.prog 113 #[.string s, .int .i64 i] w fun e w' => e = .returned (.tuple #[.int .i64 (rune s i).1, .int .i64 (rune s i).2]) ∧ w = w' := by
  have hi' : (i : Int) < (s.size : Int) := by omega
  have hc := s[i].toNat_lt
  have B0 := Lib.hid (byte_get s i hi)
  have HV := Lib.hid (fun a b n m h ha hb => rune1_val s i hi a b n m h ha hb)
  have hs1 : Lead (byteAt s i) 2 := by have := B0.out; unfold Lead; omega
  by_cases d1 : 2 ≤ (s.size : Int) - i
  · go_enter Tryd.func113, Tryd.ntmps113
    go_wp2
    go_loop [8, 10, 11] (fun r k x => ∃ (kk : Nat) (rv : Int), kk ≤ 2 ∧ k = .int .i64 kk ∧ r = .int .i64 rv ∧ Inv1 (byteAt s (i + 1)) (byteAt s (i + 2)) (byteAt s (i + 3)) (s[i].toNat - 192) kk rv) (fun _ k _ => 2 - (intOf k).toNat)
    case atStart => exact ⟨1, _, by omega, rfl, rfl, .inl ⟨rfl, rfl⟩⟩
    case round =>
      obtain ⟨kk, rv, hk, rfl, rfl, hI⟩ := hrel
      obtain ⟨hb1, hb2⟩ := inv1_bd hI (by omega) (by omega)
      obtain ⟨hk1, -⟩ := inv1_pos hI
      have HI := Lib.hid hI
      clear hI
      by_cases hlt : kk < 2
      · have hik : i + kk < s.size := by omega
        have hik' : (i : Int) + kk < s.size := by omega
        have hx := s[i + kk].toNat_lt
        have BK := Lib.hid ((congrArg (fun z : Nat => (z : Int)) (byte_get s (i + kk) hik)).trans (byteK_at s i kk hk1 (by omega)))
        by_cases x1 : (s[i + kk].toNat : Int) < 128
        · go_wp2
          go_ret2
          exact ⟨HV.out _ _ 0 0 (ref1_bad _ _ _ _ _ 2 kk hs1 hk1 hlt (.inl (by rw [← BK.out]; exact x1))) rfl rfl, rfl⟩
        by_cases x2 : (191 : Int) < s[i + kk].toNat
        · go_wp2
          go_ret2
          exact ⟨HV.out _ _ 0 0 (ref1_bad _ _ _ _ _ 2 kk hs1 hk1 hlt (.inr (by rw [← BK.out]; exact x2))) rfl rfl, rfl⟩
        go_wp2
        go_round
        case rel => exact ⟨kk + 1, _, by omega, by go_num, rfl, inv1_step HI.out (by omega) BK.out (by omega) (by omega)⟩
        case measure => simp [intOf]; omega
      · obtain rfl : kk = 2 := by omega
        have HE := Lib.hid (ref1_end (s.size - i) (byteAt s i) _ _ _ 2 _ 128 rv (by have := B0.out; omega) (by omega) HI.out)
        by_cases x1 : rv < 128
        · go_wp2
          go_ret2
          exact ⟨HV.out _ _ 0 0 (by rw [HE.out, if_pos (by omega)]) rfl rfl, rfl⟩
        by_cases x2 : 1114111 < rv
        · go_wp2
          go_ret2
          exact ⟨HV.out _ _ 0 0 (by rw [HE.out, if_pos (by omega)]) rfl rfl, rfl⟩
        by_cases x3 : 55296 ≤ rv
        · by_cases x4 : rv ≤ 57343
          · go_wp2
            go_ret2
            exact ⟨HV.out _ _ 0 0 (by rw [HE.out, if_pos (by omega)]) rfl rfl, rfl⟩
          · go_wp2
            go_ret2
            exact ⟨HV.out _ _ _ 2 (by rw [HE.out, if_neg (by omega)]) (by omega) rfl, rfl⟩
        · go_wp2
          go_ret2
          exact ⟨HV.out _ _ _ 2 (by rw [HE.out, if_neg (by omega)]) (by omega) rfl, rfl⟩
  · go_enter Tryd.func113, Tryd.ntmps113
    go_wp2
    go_ret2
    exact ⟨HV.out _ _ 0 0 (ref1_short _ _ _ _ _ 2 hs1 (by omega)) rfl rfl, rfl⟩
set_option maxRecDepth 100000 in
set_option maxHeartbeats 1000000 in
theorem rune1_3 (s : ByteArray) (i : Nat) (w : World) (hi : i < s.size) (hs : s.size ≤ 1000000000) (c1 : 224 ≤ (s[i].toNat : Int)) (c2 : (s[i].toNat : Int) < 240) :
    Calls Tryd.prog 113 #[.string s, .int .i64 i] w fun e w' => e = .returned (.tuple #[.int .i64 (rune s i).1, .int .i64 (rune s i).2]) ∧ w = w' := by
  have hi' : (i : Int) < (s.size : Int) := by omega
  have hc := s[i].toNat_lt
  have B0 := Lib.hid (byte_get s i hi)
  have HV := Lib.hid (fun a b n m h ha hb => rune1_val s i hi a b n m h ha hb)
  have hs1 : Lead (byteAt s i) 3 := by have := B0.out; unfold Lead; omega
  by_cases d1 : 3 ≤ (s.size : Int) - i
  · go_enter Tryd.func113, Tryd.ntmps113
    go_wp2
    go_loop [8, 10, 11] (fun r k x => ∃ (kk : Nat) (rv : Int), kk ≤ 3 ∧ k = .int .i64 kk ∧ r = .int .i64 rv ∧ Inv1 (byteAt s (i + 1)) (byteAt s (i + 2)) (byteAt s (i + 3)) (s[i].toNat - 224) kk rv) (fun _ k _ => 3 - (intOf k).toNat)
    case atStart => exact ⟨1, _, by omega, rfl, rfl, .inl ⟨rfl, rfl⟩⟩
    case round =>
      obtain ⟨kk, rv, hk, rfl, rfl, hI⟩ := hrel
      obtain ⟨hb1, hb2⟩ := inv1_bd hI (by omega) (by omega)
      obtain ⟨hk1, -⟩ := inv1_pos hI
      have HI := Lib.hid hI
      clear hI
      by_cases hlt : kk < 3
      · have hik : i + kk < s.size := by omega
        have hik' : (i : Int) + kk < s.size := by omega
        have hx := s[i + kk].toNat_lt
        have BK := Lib.hid ((congrArg (fun z : Nat => (z : Int)) (byte_get s (i + kk) hik)).trans (byteK_at s i kk hk1 (by omega)))
        by_cases x1 : (s[i + kk].toNat : Int) < 128
        · go_wp2
          go_ret2
          exact ⟨HV.out _ _ 0 0 (ref1_bad _ _ _ _ _ 3 kk hs1 hk1 hlt (.inl (by rw [← BK.out]; exact x1))) rfl rfl, rfl⟩
        by_cases x2 : (191 : Int) < s[i + kk].toNat
        · go_wp2
          go_ret2
          exact ⟨HV.out _ _ 0 0 (ref1_bad _ _ _ _ _ 3 kk hs1 hk1 hlt (.inr (by rw [← BK.out]; exact x2))) rfl rfl, rfl⟩
        go_wp2
        go_round
        case rel => exact ⟨kk + 1, _, by omega, by go_num, rfl, inv1_step HI.out (by omega) BK.out (by omega) (by omega)⟩
        case measure => simp [intOf]; omega
      · obtain rfl : kk = 3 := by omega
        have HE := Lib.hid (ref1_end (s.size - i) (byteAt s i) _ _ _ 3 _ 2048 rv (by have := B0.out; omega) (by omega) HI.out)
        by_cases x1 : rv < 2048
        · go_wp2
          go_ret2
          exact ⟨HV.out _ _ 0 0 (by rw [HE.out, if_pos (by omega)]) rfl rfl, rfl⟩
        by_cases x2 : 1114111 < rv
        · go_wp2
          go_ret2
          exact ⟨HV.out _ _ 0 0 (by rw [HE.out, if_pos (by omega)]) rfl rfl, rfl⟩
        by_cases x3 : 55296 ≤ rv
        · by_cases x4 : rv ≤ 57343
          · go_wp2
            go_ret2
            exact ⟨HV.out _ _ 0 0 (by rw [HE.out, if_pos (by omega)]) rfl rfl, rfl⟩
          · go_wp2
            go_ret2
            exact ⟨HV.out _ _ _ 3 (by rw [HE.out, if_neg (by omega)]) (by omega) rfl, rfl⟩
        · go_wp2
          go_ret2
          exact ⟨HV.out _ _ _ 3 (by rw [HE.out, if_neg (by omega)]) (by omega) rfl, rfl⟩
  · go_enter Tryd.func113, Tryd.ntmps113
    go_wp2
    go_ret2
    exact ⟨HV.out _ _ 0 0 (ref1_short _ _ _ _ _ 3 hs1 (by omega)) rfl rfl, rfl⟩
set_option maxRecDepth 100000 in
set_option maxHeartbeats 1000000 in
theorem rune1_4 (s : ByteArray) (i : Nat) (w : World) (hi : i < s.size) (hs : s.size ≤ 1000000000) (c1 : 240 ≤ (s[i].toNat : Int)) (c2 : (s[i].toNat : Int) < 245) :
    Calls Tryd.prog 113 #[.string s, .int .i64 i] w fun e w' => e = .returned (.tuple #[.int .i64 (rune s i).1, .int .i64 (rune s i).2]) ∧ w = w' := by
  have hi' : (i : Int) < (s.size : Int) := by omega
  have hc := s[i].toNat_lt
  have B0 := Lib.hid (byte_get s i hi)
  have HV := Lib.hid (fun a b n m h ha hb => rune1_val s i hi a b n m h ha hb)
  have hs1 : Lead (byteAt s i) 4 := by have := B0.out; unfold Lead; omega
  by_cases d1 : 4 ≤ (s.size : Int) - i
  · go_enter Tryd.func113, Tryd.ntmps113
    go_wp2
    go_loop [8, 10, 11] (fun r k x => ∃ (kk : Nat) (rv : Int), kk ≤ 4 ∧ k = .int .i64 kk ∧ r = .int .i64 rv ∧ Inv1 (byteAt s (i + 1)) (byteAt s (i + 2)) (byteAt s (i + 3)) (s[i].toNat - 240) kk rv) (fun _ k _ => 4 - (intOf k).toNat)
    case atStart => exact ⟨1, _, by omega, rfl, rfl, .inl ⟨rfl, rfl⟩⟩
    case round =>
      obtain ⟨kk, rv, hk, rfl, rfl, hI⟩ := hrel
      obtain ⟨hb1, hb2⟩ := inv1_bd hI (by omega) (by omega)
      obtain ⟨hk1, -⟩ := inv1_pos hI
      have HI := Lib.hid hI
      clear hI
      by_cases hlt : kk < 4
      · have hik : i + kk < s.size := by omega
        have hik' : (i : Int) + kk < s.size := by omega
        have hx := s[i + kk].toNat_lt
        have BK := Lib.hid ((congrArg (fun z : Nat => (z : Int)) (byte_get s (i + kk) hik)).trans (byteK_at s i kk hk1 (by omega)))
        by_cases x1 : (s[i + kk].toNat : Int) < 128
        · go_wp2
          go_ret2
          exact ⟨HV.out _ _ 0 0 (ref1_bad _ _ _ _ _ 4 kk hs1 hk1 hlt (.inl (by rw [← BK.out]; exact x1))) rfl rfl, rfl⟩
        by_cases x2 : (191 : Int) < s[i + kk].toNat
        · go_wp2
          go_ret2
          exact ⟨HV.out _ _ 0 0 (ref1_bad _ _ _ _ _ 4 kk hs1 hk1 hlt (.inr (by rw [← BK.out]; exact x2))) rfl rfl, rfl⟩
        go_wp2
        go_round
        case rel => exact ⟨kk + 1, _, by omega, by go_num, rfl, inv1_step HI.out (by omega) BK.out (by omega) (by omega)⟩
        case measure => simp [intOf]; omega
      · obtain rfl : kk = 4 := by omega
        have HE := Lib.hid (ref1_end (s.size - i) (byteAt s i) _ _ _ 4 _ 65536 rv (by have := B0.out; omega) (by omega) HI.out)
        by_cases x1 : rv < 65536
        · go_wp2
          go_ret2
          exact ⟨HV.out _ _ 0 0 (by rw [HE.out, if_pos (by omega)]) rfl rfl, rfl⟩
        by_cases x2 : 1114111 < rv
        · go_wp2
          go_ret2
          exact ⟨HV.out _ _ 0 0 (by rw [HE.out, if_pos (by omega)]) rfl rfl, rfl⟩
        by_cases x3 : 55296 ≤ rv
        · by_cases x4 : rv ≤ 57343
          · go_wp2
            go_ret2
            exact ⟨HV.out _ _ 0 0 (by rw [HE.out, if_pos (by omega)]) rfl rfl, rfl⟩
          · go_wp2
            go_ret2
            exact ⟨HV.out _ _ _ 4 (by rw [HE.out, if_neg (by omega)]) (by omega) rfl, rfl⟩
        · go_wp2
          go_ret2
          exact ⟨HV.out _ _ _ 4 (by rw [HE.out, if_neg (by omega)]) (by omega) rfl, rfl⟩
  · go_enter Tryd.func113, Tryd.ntmps113
    go_wp2
    go_ret2
    exact ⟨HV.out _ _ 0 0 (ref1_short _ _ _ _ _ 4 hs1 (by omega)) rfl rfl, rfl⟩
end Go.Proofs.YtnajccljdjllgaaDoor
