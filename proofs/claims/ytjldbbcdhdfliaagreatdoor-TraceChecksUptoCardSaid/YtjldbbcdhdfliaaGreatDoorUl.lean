/-
  Walks over the reference of layer 23: Write. Printed by gen_ul.py.
-/
import Derived.Test.YtjldbbcdhdfliaaGreatDoorUj
import Derived.Test.YtjldbbcdhdfliaaGreatDoorUk
import Derived.Test.YtjldbbcdhdfliaaGreatDoorTv
namespace Go.Proofs.YtjldbbcdhdfliaaGreatDoor
open Go.RowKit Go.Sort

set_option maxRecDepth 100000 in
set_option maxHeartbeats 4000000 in
theorem rWriteE_any (l : List Ev) (hl : l.length ≤ 1000) (b1 : Option Addr) (cap : Nat) (w : World) (hE1 : IsEs (· < w.heap.size) w l b1) (hnd : ∀ x ∈ l, nd x.v ≤ 2000000) :
    Calls Tryz.prog 17 #[.slice b1 l.length cap] w fun e w' => e = .returned (wrV l) ∧ Below w.heap.size w w' := by
  obtain ⟨C, hC⟩ : ∃ C, wrV l = C := ⟨_, rfl⟩
  have HC := Lib.hid hC
  rw [hC]
  clear hC
  have hck := rCheckE_any l (by omega) b1 cap w hE1 hnd
  obtain ⟨r, hr⟩ : ∃ r, firstW l = r := ⟨_, rfl⟩
  have HR := Lib.hid hr
  clear hr
  obtain ⟨n, hn⟩ : ∃ n, l.length = n := ⟨_, rfl⟩
  have HN := Lib.hid hn
  rw [hn] at hl hck ⊢
  have HCK := Lib.hid hck
  have HE1 := Lib.hid hE1
  have HND := Lib.hid hnd
  clear hE1 hnd hn hck
  cases r with
  | some k =>
    obtain rfl : C = .tuple #[.string ⟨#[]⟩, .int .i64 230] := by
      rw [← HC.out]
      unfold wrV
      rw [HR.out]
    go_enter Tryz.func17, Tryz.ntmps17
    go_wp2_with fail
    refine HCK.out.mono ?_
    unfold CkV
    rw [HR.out]
    rintro e w1 ⟨rfl, hb1⟩
    go_wp2_with fail
    go_ret2
    exact ⟨rfl, hb1⟩
  | none =>
    have HC2 : Hid (C = .tuple #[.string ⟨(wrL l).toArray⟩, .int .i64 0]) := by
      show _ = _
      rw [← HC.out]
      unfold wrV
      rw [HR.out]
    go_enter Tryz.func17, Tryz.ntmps17
    go_wp2_with fail
    refine HCK.out.mono ?_
    unfold CkV
    rw [HR.out]
    rintro e w1 ⟨rfl, hb1⟩
    go_wp2_with fail
    go_loopw [6, 7] (fun s i wr => ∃ (j : Nat) (S : ByteArray), i = .int .i64 (j : Nat) ∧ s = .string S ∧ j ≤ n ∧ S.size ≤ 60001 * j ∧ S.data.toList ++ wrL (l.drop j) = wrL l ∧ Below w.heap.size w wr) (fun _ i _ => n - (intOf i).toNat)
    case atStart => exact ⟨0, ⟨#[]⟩, rfl, rfl, Nat.zero_le _, by decide, rfl, hb1⟩
    case round =>
      clear hb1
      obtain ⟨j, S, rfl, rfl, hj, hSz, htx, hb⟩ := hrel
      have HTX := Lib.hid htx
      clear htx
      by_cases hlt : j < n
      · have hd1 : decide (j < n) = true := by simpa using hlt
        have hlt2 : (j : Int) < (n : Int) := by omega
        obtain ⟨x, hx⟩ : ∃ x, l[j]? = some x := ⟨l[j]'(by have := HN.out; omega), List.getElem?_eq_getElem _⟩
        have hndx := HND.out x (List.mem_of_getElem? hx)
        have hrx := (right_of_none HR.out hx).1
        obtain ⟨g1, o1, kk, nn, a1, len1, cap1, ha1, hg1, hc1, hv1, hr1⟩ := HE1.out j x hx
        subst ha1
        have hi1 : IsE (· < wr.heap.size) wr x (.agg #[.int .i64 x.k, .int .i64 x.st, .int .i64 x.th, .int .i64 x.sy, .int .i64 x.br, .int .i64 x.pa, .int .i64 x.n, .int .i64 kk, .int .i64 nn, .slice a1 len1 cap1]) := IsE.more (w := wr) ⟨kk, nn, a1, len1, cap1, rfl, hv1.below hb, hr1⟩ fun g hg => Nat.lt_of_lt_of_le hg hb.size
        have p0 : wr.cell? ⟨g1, o1 + j * 10, none⟩ = some (.int .i64 x.k) := (hb.cell (p := ⟨g1, o1 + j * 10, none⟩) hg1).trans (hc1 0 (.int .i64 x.k) rfl)
        have p1 : wr.cell? ⟨g1, o1 + j * 10 + 1, none⟩ = some (.int .i64 x.st) := (hb.cell (p := ⟨g1, o1 + j * 10 + 1, none⟩) hg1).trans (hc1 1 (.int .i64 x.st) rfl)
        have p2 : wr.cell? ⟨g1, o1 + j * 10 + 2, none⟩ = some (.int .i64 x.th) := (hb.cell (p := ⟨g1, o1 + j * 10 + 2, none⟩) hg1).trans (hc1 2 (.int .i64 x.th) rfl)
        have p3 : wr.cell? ⟨g1, o1 + j * 10 + 3, none⟩ = some (.int .i64 x.sy) := (hb.cell (p := ⟨g1, o1 + j * 10 + 3, none⟩) hg1).trans (hc1 3 (.int .i64 x.sy) rfl)
        have p4 : wr.cell? ⟨g1, o1 + j * 10 + 4, none⟩ = some (.int .i64 x.br) := (hb.cell (p := ⟨g1, o1 + j * 10 + 4, none⟩) hg1).trans (hc1 4 (.int .i64 x.br) rfl)
        have p5 : wr.cell? ⟨g1, o1 + j * 10 + 5, none⟩ = some (.int .i64 x.pa) := (hb.cell (p := ⟨g1, o1 + j * 10 + 5, none⟩) hg1).trans (hc1 5 (.int .i64 x.pa) rfl)
        have p6 : wr.cell? ⟨g1, o1 + j * 10 + 6, none⟩ = some (.int .i64 x.n) := (hb.cell (p := ⟨g1, o1 + j * 10 + 6, none⟩) hg1).trans (hc1 6 (.int .i64 x.n) rfl)
        have p7 : wr.cell? ⟨g1, o1 + j * 10 + 7, none⟩ = some (.int .i64 kk) := (hb.cell (p := ⟨g1, o1 + j * 10 + 7, none⟩) hg1).trans (hc1 7 (.int .i64 kk) rfl)
        have p8 : wr.cell? ⟨g1, o1 + j * 10 + 8, none⟩ = some (.int .i64 nn) := (hb.cell (p := ⟨g1, o1 + j * 10 + 8, none⟩) hg1).trans (hc1 8 (.int .i64 nn) rfl)
        have p9 : wr.cell? ⟨g1, o1 + j * 10 + 9, none⟩ = some (.slice a1 len1 cap1) := (hb.cell (p := ⟨g1, o1 + j * 10 + 9, none⟩) hg1).trans (hc1 9 (.slice a1 len1 cap1) rfl)
        obtain ⟨D, hD⟩ : ∃ D : ByteArray, (⟨(textE x).toArray⟩ : ByteArray) = D := ⟨_, rfl⟩
        have hDz : D.size ≤ 60000 := by
          have := textE_len hrx hr1 hv1.rng
          rw [← hD]
          simpa [ByteArray.size] using this
        have HTT : Hid (ttV x = .tuple #[.string D, .int .i64 0]) := by
          show _ = _
          unfold ttV
          rw [if_pos hrx, hD]
        have z10 : (ByteArray.mk #[10]).size = 1 := rfl
        have HNX : Hid ((S ++ D ++ ByteArray.mk #[10]).data.toList ++ wrL (l.drop (j + 1)) = wrL l) := by
          show _ = _
          have hlj : j < l.length := by have := HN.out; omega
          have e : l.drop j = x :: l.drop (j + 1) := by
            rw [List.drop_eq_getElem_cons hlj]
            have := List.getElem?_eq_getElem hlj
            rw [hx] at this
            injection this with this
            rw [this]
          rw [← HTX.out, e, wrL, ← hD]
          simp [ByteArray.data_append]
        have q1 : ¬ (9223372036854775807 < S.size + D.size) := by omega
        have q2 : ¬ (9223372036854775807 < S.size + D.size + 1) := by omega
        clear hx hrx hc1 hv1 hr1 hg1 hD
        go_wp2_with fail
        refine (rTextE_any x _ _ hi1 hndx).mono ?_
        rw [HTT.out]
        rintro e w2 ⟨rfl, hb2⟩
        have hb3 := hb.trans (hb2.mono hb.size)
        clear p0 p1 p2 p3 p4 p5 p6 p7 p8 p9 hi1 hb2 hb
        go_wp2_with fail
        go_roundw
        case rel => first | exact ⟨j + 1, S ++ D ++ ByteArray.mk #[10], by go_num, rfl, by omega, by rw [ByteArray.size_append, ByteArray.size_append, z10]; omega, HNX.out, hb3⟩ | ((repeat apply Exists.intro); exact ⟨⟨j + 1, S ++ D ++ ByteArray.mk #[10], by go_num, rfl, by omega, by rw [ByteArray.size_append, ByteArray.size_append, z10]; omega, HNX.out, hb3⟩, rfl⟩)
        case measure => simp [intOf]; omega
      · have hd1 : decide (j < n) = false := by simpa using hlt
        have HF : Hid (S.data.toList = wrL l) := by
          show _ = _
          rw [← HTX.out, List.drop_eq_nil_of_le (by have := HN.out; omega), wrL, List.append_nil]
        obtain rfl : C = .tuple #[.string S, .int .i64 0] := by rw [HC2.out, str_eq HF.out]
        go_wp2_with fail
        go_ret2
        exact ⟨rfl, hb⟩
end Go.Proofs.YtjldbbcdhdfliaaGreatDoor
