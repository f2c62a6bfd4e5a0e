/-
 Walks over package trace: Write. Printed by gen_tv.py.
-/
import Derived.Test.YtjldbbcdhdfliaaGreatDoorTtTu
import Derived.Test.YtjldbbcdhdfliaaGreatDoorCeCf
import Derived.Test.YtjldbbcdhdfliaaGreatDoorUkCb
import Derived.Test.YtjldbbcdhdfliaaGreatDoorFw
import Derived.Test.YtjldbbcdhdfliaaGreatDoorVk
import Derived.Test.YtjldbbcdhdfliaaGreatDoorUcUh
import Derived.Test.YtjldbbcdhdfliaaGreatDoorZaZb
import Derived.Laws.IdiomStrings
namespace Go.Proofs.YtjldbbcdhdfliaaGreatDoor
open Go.RowKit Go.Sort

theorem conv_nil (w : World) : (convert 55 9 (.slice none 0 0)).run Tryz.prog w = .ok (.string ⟨([] : List UInt8).toArray⟩) w := by kernel_rfl
/-- What stands in Write. -/
structure WrI (sb eb b mb lo : Nat) (w W : World) (v : Value) (L : List UInt8) : Prop where
 sc : B1 W sb 9 (.string ⟨#[]⟩)
 ec : B1 W eb 30 (.int .i64 0)
 row : Byt lo W v L
 tt : TabT W b mb
 bd : Below w.heap.size w W
 en : Env W
 le : lo ≤ W.heap.size
 o0 : w.heap.size = sb
 o1 : sb + 1 = eb
 o2 : eb < b
 o3 : eb < mb
 o4 : b < lo
 o5 : mb < lo
 o9 : 5 ≤ w.heap.size
section
variable {sb eb b mb lo : Nat} {w W W1 W' : World} {v v' : Value} {L L' : List UInt8}
theorem WrI.below (h : WrI sb eb b mb lo w W v L) (hb : Below W.heap.size W W') : WrI sb eb b mb lo w W' v L :=
 ⟨h.sc.belowAll hb, h.ec.belowAll hb, h.row.below hb, h.tt.belowAll hb, h.bd.trans (hb.mono h.bd.size), h.en.below (hb.mono (B' := w.heap.size) h.bd.size) h.o9, Nat.le_trans h.le hb.size, h.o0, h.o1, h.o2, h.o3, h.o4, h.o5, h.o9⟩
theorem WrI.next (h : WrI sb eb b mb lo w W v L) (hk : Kp lo W W1) (hr : Byt lo W1 v' L') : WrI sb eb b mb lo w W1 v' L' := by
 have e0 := h.o0
 have e1 := h.o1
 have e2 := h.o2
 have e3 := h.o3
 have e4 := h.o4
 have e5 := h.o5
 have hs1 : B1 W1 sb 9 (.string ⟨#[]⟩) := hk.k _ _ _ _ h.sc (by decide)
 have he1 : B1 W1 eb 30 (.int .i64 0) := hk.k _ _ _ _ h.ec (by decide)
 have hbw : Below w.heap.size W W1 := hk.b.mono (by omega)
 exact ⟨hs1, he1, hr, ⟨(hk.b.block b h.o4).trans h.tt.c, h.tt.m.block (hk.b.block mb h.o5)⟩, h.bd.trans hbw, h.en.below hbw h.o9, Nat.le_trans h.le hk.size, h.o0, h.o1, h.o2, h.o3, h.o4, h.o5, h.o9⟩
end
end Go.Proofs.YtjldbbcdhdfliaaGreatDoor
/-
 Layer 23: the statement TraceCodes, walked.
-/
namespace Go.Proofs.YtjldbbcdhdfliaaGreatDoor
open Go.RowKit Go.Shelf Go.Sort

theorem conv_any {B : Nat} {w : World} {v : Value} {l : List UInt8} (h : Byt B w v l) : (convert 55 9 v).run Tryz.prog w = .ok (.string ⟨l.toArray⟩) w := by
 by_cases hl : l = []
 ·subst hl
  rcases h.2 with ⟨rfl, _⟩ | ⟨g, cap, cur, rfl, _⟩
  ·exact conv_nil w
  ·exact cel_convT (w := w) (g := g) (o := 0) (cap := cap) (l := []) fun i d hd => by cases hd
 ·exact h.conv hl
/-- What Encode answers: its bytes and its error. -/
def encS (l : List Ev) : ByteArray := match firstW l with
 | none => ⟨(encB l).toArray⟩
 | some _ => ⟨#[]⟩
def encN (l : List Ev) : Nat := match firstW l with
 | none => 0
 | some _ => 230
theorem enc_form {l : List Ev} {w w' : World} {e : Ending} (h : EncEnds l w e w') : ∃ (a : Option Addr) (n cap : Nat), e = .returned (.tuple #[.slice a n cap, .int .i64 (encN l : Nat)]) ∧ (∀ W, Below w'.heap.size w' W → (convert 55 9 (.slice a n cap)).run Tryz.prog W = .ok (.string (encS l)) W) ∧ Below w.heap.size w w' := by
 unfold EncEnds at h
 unfold encN encS
 cases hf : firstW l with
 | none =>
  rw [hf] at h
  obtain ⟨⟨v, rfl, hv⟩, hb⟩ := h
  obtain ⟨a, n, cap, rfl⟩ := hv.form
  exact ⟨a, n, cap, rfl, fun W hW => conv_any (hv.below hW), hb⟩
 | some k =>
  rw [hf] at h
  obtain ⟨rfl, hb⟩ := h
  exact ⟨none, 0, 0, rfl, fun W _ => conv_nil W, hb⟩
def decX (b : List UInt8) : List Ev := (decE b).getD []
def decN (b : List UInt8) : Nat := match decE b with
 | some _ => 0
 | none => 230
theorem decn_form {b : List UInt8} {w w' : World} {e : Ending} (h : DcEnds (decE b) w e w') : ∃ (a : Option Addr) (cap : Nat), e = .returned (.tuple #[.slice a (decX b).length cap, .int .i64 (decN b : Nat)]) ∧ IsEs (fun g => w.heap.size ≤ g ∧ g < w'.heap.size) w' (decX b) a ∧ Below w.heap.size w w' := by
 unfold DcEnds at h
 unfold decX decN
 cases hd : decE b with
 | some l =>
  rw [hd] at h
  obtain ⟨⟨a, cap, rfl, -, -, h2⟩, hb⟩ := h
  exact ⟨a, cap, rfl, h2, hb⟩
 | none =>
  rw [hd] at h
  obtain ⟨rfl, hb⟩ := h
  exact ⟨none, 0, rfl, fun j x hx => (by simp at hx), hb⟩
theorem setF_v (y : Ev) (i : Nat) (n : Int) : (setF y i n).v = y.v := by
 unfold setF
 split <;> rfl
theorem fldD_nd {y z : Ev} {i : Nat} {l r : List UInt8} (h0 : nd y.v ≤ 256) (h : fldD y i l = some (z, r)) : nd z.v ≤ 256 := by
 by_cases h4 : i = 4
 ·subst h4
  unfold fldD at h
  rw [if_pos rfl] at h
  cases hn : numO 0 0 l with
  | none =>
   rw [hn] at h
   cases h
  | some q =>
   obtain ⟨n, r1⟩ := q
   rw [hn] at h
   simp only at h
   split at h
   ·cases hp : parse ⟨(r1.take n).toArray⟩ with
    | error e =>
     rw [hp] at h
     cases h
    | ok t =>
     rw [hp] at h
     cases h
     exact parse_nd hp
   ·cases h
 ·rw [fldD_num y i l h4] at h
  cases ha : atD (if i = 2 then 1 else 0) l with
  | none =>
   rw [ha] at h
   cases h
  | some q =>
   rw [ha] at h
   cases h
   rw [setF_v]
   exact h0
theorem rowD_nd : ∀ (l : List Nat) (y z : Ev) (b r : List UInt8), nd y.v ≤ 256 → rowD y l b = some (z, r) → nd z.v ≤ 256
 | [], y, z, b, r, h0, h => by
  rw [rowD] at h
  cases h
  exact h0
 | i :: l, y, z, b, r, h0, h => by
  rw [rowD] at h
  cases hf : fldD y i b with
  | none =>
   rw [hf] at h
   cases h
  | some q =>
   obtain ⟨y', b'⟩ := q
   rw [hf] at h
   exact rowD_nd l y' z b' r (fldD_nd h0 hf) h
theorem evD_nd {x : Ev} {last st' : Int} {l r : List UInt8} (h : evD last l = some (x, st', r)) : nd x.v ≤ 256 := by
 cases l with
 | nil => cases h
 | cons c l =>
  rw [evD] at h
  split at h
  ·cases ha : atD 0 l with
   | none =>
    rw [ha] at h
    cases h
   | some q =>
    obtain ⟨d, l1⟩ := q
    rw [ha] at h
    unfold evT at h
    simp only at h
    split at h
    ·cases h
    ·cases hb : atD 0 l1 with
     | none =>
      rw [hb] at h
      cases h
     | some q2 =>
      obtain ⟨th, l2⟩ := q2
      rw [hb] at h
      unfold evR at h
      simp only at h
      cases hd : rowD { k := (c.toNat : Nat), st := last + d, th := th, sy := 0, br := 0, pa := 0, n := 0, v := zeroT } (rowE (c.toNat : Nat)) l2 with
      | none =>
       rw [hd] at h
       cases h
      | some q3 =>
       obtain ⟨z, l3⟩ := q3
       rw [hd] at h
       cases h
       exact rowD_nd _ _ _ _ _ (show nd zeroT ≤ 256 by decide) hd
  ·cases h
theorem decL_nd : ∀ (f : Nat) (done d : List Ev) (last : Int) (b : List UInt8), (∀ x ∈ done, nd x.v ≤ 256) → decL f done last b = some d → ∀ x ∈ d, nd x.v ≤ 256
 | 0, _, _, _, _, _, h => by
  rw [decL] at h
  cases h
 | f + 1, done, d, last, b, h0, h => by
  rw [decL] at h
  by_cases hb : b = []
  ·rw [if_pos hb] at h
   cases h
   exact h0
  ·rw [if_neg hb] at h
   cases he : evD last b with
   | none =>
    rw [he] at h
    cases h
   | some q =>
    obtain ⟨x, st', r⟩ := q
    rw [he] at h
    refine decL_nd f (done ++ [x]) d st' r (fun y hy => ?_) h
    rcases List.mem_append.1 hy with hy | hy
    ·exact h0 y hy
    ·rw [List.mem_singleton.1 hy]
     exact evD_nd he
theorem decX_nd (b : List UInt8) : ∀ x ∈ decX b, nd x.v ≤ 256 := by
 unfold decX
 cases h : decE b with
 | none => simp
 | some d =>
  unfold decE at h
  split at h
  ·cases h
  ·split at h
   ·exact decL_nd _ [] d 0 _ (by simp) h
   ·cases h
theorem decL_len : ∀ (f : Nat) (done d : List Ev) (last : Int) (b : List UInt8), 0 ≤ last → last ≤ 9223372036854775807 → decL f done last b = some d → d.length ≤ done.length + b.length
 | 0, _, _, _, _, _, _, h => by
  rw [decL] at h
  cases h
 | f + 1, done, d, last, b, h0, h1, h => by
  cases b with
  | nil =>
   rw [decL, if_pos rfl] at h
   cases h
   omega
  | cons c b =>
   rw [decL, if_neg (by simp)] at h
   cases he : evD last (c :: b) with
   | none =>
    rw [he] at h
    cases h
   | some q =>
    obtain ⟨x, st', r⟩ := q
    rw [he] at h
    obtain ⟨e1, e2, e3⟩ := evD_some he h0 h1
    have := decL_len f (done ++ [x]) d st' r e2 e3 h
    simp at this ⊢
    omega
theorem decX_len (b : List UInt8) : (decX b).length ≤ b.length := by
 unfold decX
 cases h : decE b with
 | none => simp
 | some d =>
  unfold decE at h
  split at h
  ·cases h
  ·split at h
   ·have := decL_len _ [] d 0 _ (Int.le_refl _) (by omega) h
    simp at this ⊢
    omega
   ·cases h
theorem cel_setC {w : World} {g i : Nat} {l : List UInt8} {c : UInt8} {v : Value} (h : Cel w g 0 l) (hv : v = .int .u8 (c.toNat : Nat)) (hi : i < l.length) : Cel (w.setCell ⟨g, i, none⟩ v) g 0 (l.set i c) := by
 intro k d hk
 rw [Nat.zero_add]
 rcases Nat.lt_or_ge k l.length with hl | hl
 ·have h0 := h k l[k] (List.getElem?_eq_getElem hl)
  rw [Nat.zero_add] at h0
  by_cases e : i = k
  ·subst e
   rw [List.getElem?_set_self hi] at hk
   injection hk with hk
   subst hk
   subst hv
   exact World.cell?_setCell_same _ _ _ h0
  ·rw [List.getElem?_set_ne e, List.getElem?_eq_getElem hl] at hk
   injection hk with hk
   subst hk
   exact (World.cell?_setCell_other _ _ _ _ (by intro e2; injection e2 with _ e2; exact e e2)).trans h0
 ·rw [List.getElem?_eq_none (by simpa using hl)] at hk
  cases hk
theorem byte_inc (c : UInt8) : ∃ c' : UInt8, IntKind.u8.wrap ((c.toNat : Int) + 1) = ((c'.toNat : Nat) : Int) := by
 have hc := u8_lt c
 refine ⟨UInt8.ofNat ((c.toNat + 1) % 256), ?_⟩
 have hw : IntKind.u8.wrap ((c.toNat : Int) + 1) = ((c.toNat : Int) + 1) % 256 := by simp [IntKind.wrap, IntKind.bits, IntKind.signed]
 rw [u8_of (Nat.mod_lt _ (by decide)), hw]
 omega
/-- A row of bytes that is one's own, where it is not empty. -/
theorem byt_own {B : Nat} {w : World} {v : Value} {l : List UInt8} (h : Byt B w v l) (_hB : B ≤ w.heap.size) (h5 : 1 ≤ w.heap.size) : ∃ (g : Nat) (a : Option Addr) (cap : Nat), v = .slice a l.length cap ∧ l.length ≤ cap ∧ g < w.heap.size ∧ (l ≠ [] → a = some ⟨g, 0, none⟩ ∧ B ≤ g ∧ Cel w g 0 l ∧ ∃ cur, w.heap[g]? = some (.cells cur 5 (0, 0))) := by
 have h' := h
 rcases h.2 with ⟨rfl, h0⟩ | ⟨g, cap, cur, rfl, e2, e3, e4, _⟩
 ·have : l = [] := List.eq_nil_of_length_eq_zero h0
  subst this
  exact ⟨0, none, 0, rfl, Nat.le_refl _, by omega, fun h => absurd rfl h⟩
 ·exact ⟨g, _, cap, rfl, e4, lt_of_heap e3, fun _ => ⟨rfl, e2, h'.cel, cur, e3⟩⟩
/-- What []byte(s) lays. -/
theorem bytes_lay (w : World) (S : ByteArray) : ∃ (cap : Nat) (O : Obj), (convert 9 55 (.string S)).run Tryz.prog w = .ok (.slice (some ⟨w.heap.size, 0, none⟩) S.size cap) (w.drew.alloc O) ∧ S.size ≤ cap ∧ Cel (w.drew.alloc O) w.heap.size 0 S.data.toList := by
 refine ⟨_, _, run_bytes_of_string w 9 55 5 S Tryz.underlying9 Tryz.underlying55 Tryz.underlying5, grownCap_ge _ _ _ _, fun i c hc => ?_⟩
 have hg := heap_alloc_new w.drew (.cells (bytesRow S (grownCap w S.size 0 5)) 5 ((bytesRow S (grownCap w S.size 0 5)).size, (bytesRow S (grownCap w S.size 0 5)).size + 1))
 rw [Nat.zero_add]
 have hs : w.drew.heap.size = w.heap.size := rfl
 rw [hs] at hg
 rw [cell_of_row _ w.heap.size i _ _ _ hg]
 unfold bytesRow
 have hi := (List.getElem?_eq_some_iff.1 hc).1
 rw [Array.getElem?_append_left (by simpa using hi), Array.getElem?_map, ← Array.getElem?_toList, hc]
 rfl
set_option maxRecDepth 100000 in
set_option maxHeartbeats 16000000 in
theorem tcodes_law (l : List Ev) (b1 : Option Addr) (cap : Nat) (hlc : l.length ≤ cap) (hcm : cap ≤ maxLen) (Lb : List UInt8) (b2 : Option Addr) (cap2 : Nat) (hlc2 : Lb.length ≤ cap2) (hcm2 : cap2 ≤ maxLen) (sl : Bool)
  (w : World) (hE1 : IsEs (· < w.heap.size) w l b1) (hnd : ∀ x ∈ l, nd x.v ≤ 2000000) (hE2 : Lies w b2 Lb) (hE : EnvT w) :
  Calls Tryz.prog 6 #[.slice b1 l.length cap, .slice b2 Lb.length cap2, .bool sl] w fun e w' => e = .returned (.bool true) ∧ Below w.heap.size w w' := by
 have hnm := Nat.le_trans hlc hcm
 have hbm := Nat.le_trans hlc2 hcm2
 unfold maxLen at hnm hbm
 have hfw := few_any l b1 cap hlc hcm w hE1 hnd
 obtain ⟨n, hn⟩ : ∃ n, l.length = n := ⟨_, rfl⟩
 obtain ⟨nb, hnb⟩ : ∃ nb, Lb.length = nb := ⟨_, rfl⟩
 have HN := Lib.hid hn
 have HNB := Lib.hid hnb
 have HE2 := Lib.hid hE2
 have HE1 := Lib.hid hE1
 have h5 := hE.env.size
 clear hE2
 cases hf : fewE l
 ·rw [hf] at hfw
  rw [hn] at hfw ⊢
  rw [hnb]
  have HFW := Lib.hid hfw
  clear hfw hf hn hnb hlc hlc2 hE1 hnd
  go_enter Tryz.func6, Tryz.ntmps6
  go_wp2_with fail
  refine HFW.out.mono ?_
  rintro e w1 ⟨rfl, hb1⟩
  go_wp2_with fail
  refine (tworks_any _ (hE.below hb1 hE.env.size)).mono ?_
  rintro e w99 ⟨rfl, hb99⟩
  go_wp2_with fail
  go_ret
  exact ⟨rfl, hb1.trans (hb99.mono hb1.size)⟩
 rw [hf] at hfw
 obtain ⟨h20, -⟩ := few_nd hf
 have HEC : Hid (∀ W, Below w.heap.size w W → Calls Tryz.prog 24 #[.slice b1 n cap] W (EncEnds l W)) := by
  intro W hb
  rw [← hn]
  exact TEncode_any l (by omega) b1 cap W (hE1.later hb) (hE.env.below hb hE.env.size)
 have HRC : Hid (∀ W, Below w.heap.size w W → Calls Tryz.prog 25 #[.slice b1 n cap] W (EncEnds l W)) := by
  intro W hb
  rw [← hn]
  exact rEncode_any l (by omega) b1 cap W (hE1.later hb) hnd
 rw [hn] at hfw h20 ⊢
 rw [hnb]
 have HFW := Lib.hid hfw
 clear hfw hf hn hnb hlc hlc2 hE1 hnd
 by_cases hl2 : 1000 < nb
 ·have hd2 : decide (1000 < (nb : Int)) = true := by simp; omega
  go_enter Tryz.func6, Tryz.ntmps6
  go_wp2_with fail
  refine HFW.out.mono ?_
  rintro e w1 ⟨rfl, hb1⟩
  go_wp2_with fail
  refine (tworks_any _ (hE.below hb1 hE.env.size)).mono ?_
  rintro e w99 ⟨rfl, hb99⟩
  go_wp2_with fail
  go_ret
  exact ⟨rfl, hb1.trans (hb99.mono hb1.size)⟩
 have hd2 : decide (1000 < (nb : Int)) = false := by simp; omega
 go_enter Tryz.func6, Tryz.ntmps6
 go_wp2_with fail
 refine HFW.out.mono ?_
 rintro e w1 ⟨rfl, hb1⟩
 go_wp2_with fail
 refine (HEC.out _ hb1).mono ?_
 intro e w2 h2
 obtain ⟨ea, en, ec, rfl, hcv1, hb2⟩ := enc_form h2
 have hb2 := hb1.trans (hb2.mono hb1.size)
 clear h2 hb1 hd2
 go_wp2_with fail
 refine (HRC.out _ hb2).mono ?_
 intro e w3 h3
 obtain ⟨fa, fn, fc, rfl, hcv2, hb3⟩ := enc_form h3
 have hv1 := hcv1 w3 hb3
 have hv2 := hcv2 w3 (Below.refl _ _)
 have hb3 := hb2.trans (hb3.mono hb2.size)
 obtain ⟨ES, hES⟩ : ∃ ES, encS l = ES := ⟨_, rfl⟩
 obtain ⟨EN, hEN⟩ : ∃ EN, encN l = EN := ⟨_, rfl⟩
 rw [hES] at hv1 hv2
 rw [hEN]
 have hee : (ES.toList == ES.toList) = true := by simp
 have hnn : ((EN : Int) != (EN : Int)) = false := by simp
 clear h3 hcv1 hcv2 hb2 hES hEN HEC HRC HFW HE1
 go_wp2_with fail
 refine (num23_any _ _).mono ?_
 rintro e w98 ⟨rfl, rfl⟩
 have hlb := HE2.out.below hb3
 have hbz := below_alloc w3 (.cells #[] 5)
 have hlb2 := hlb.below hbz
 have hwz : w.heap.size ≤ w3.heap.size := hb3.size
 go_upto_region 8 with (at_builtin; refine wpList_appA _ rfl (.tmp 48) (.tmp 49) rfl w3.heap.size _ [] rfl (Byt.empty _) b2 _ cap2 Lb HNB.out.symm rfl hlb2 (by have := HNB.out; simp; omega) (by simp) ?_; intro v4 w4 hr4 hk4)
 obtain ⟨va4, vn4, vc4, rfl⟩ := hr4.form
 rw [List.nil_append] at hr4
 have hb4 : Below w.heap.size w w4 := hb3.trans ((hbz.trans hk4.b).mono hwz)
 have hr4' : Byt w.heap.size w4 _ Lb := World.ownsRow.mono hr4 hwz
 clear hlb hlb2 hbz hr4 hk4 hv1 hv2 hb3 hwz hee hnn
 go_upto_if 51 with fail
 go_cut [1] from 52 to 56 (fun s1 wx => ∃ (v : Value) (L2 : List UInt8), s1 = v ∧ Byt w.heap.size wx v L2 ∧ L2.length ≤ 1000 ∧ Below w.heap.size w wx)
 case first =>
  cases sl
  ·go_wp2_with fail
   go_meet
   exact ⟨_, Lb, rfl, hr4', by have := HNB.out; omega, hb4⟩
  ·obtain ⟨va, vcap, hveq, hli, hlcap⟩ := hr4'.lies
   simp only [Value.slice.injEq] at hveq
   obtain ⟨rfl, rfl, rfl⟩ := hveq
   have hbz := below_alloc w4 (.cells #[] 5)
   have hli2 := hli.below hbz
   have hwz : w.heap.size ≤ w4.heap.size := hb4.size
   by_cases h4 : Lb.length < 4
   ·have hcs := rSealed_few va4 vc4 Lb (w4.alloc (.cells #[] 5)) h4
    have HCS := Lib.hid hcs
    clear hcs
    go_wp2_with fail
    refine HCS.out.mono ?_
    rintro e w5 ⟨rfl, rfl⟩
    go_wp2_with (at_builtin; refine wpList_appA _ rfl (.tmp 52) (.tmp 54) rfl w4.heap.size _ [] rfl (Byt.empty _) va4 _ vc4 Lb rfl rfl hli2 (by simp; omega) (by simp) ?_; intro v5 w5 hr5 hk5)
    go_meet
    exact ⟨_, [] ++ Lb, rfl, World.ownsRow.mono hr5 hwz, by have := HNB.out; simp; omega, hb4.trans ((hbz.trans hk5.b).mono hwz)⟩
   ·have hcs := rSealed_any va4 vc4 Lb (by have := HNB.out; omega) (w4.alloc (.cells #[] 5)) hli2 hlcap (by omega)
    have HCS := Lib.hid hcs
    clear hcs
    go_wp2_with fail
    refine HCS.out.mono ?_
    rintro e w5 ⟨v5, rfl, hr5, hb5⟩
    have he5 := (Byt.empty w4).below hb5
    have hbw5 := hbz.trans (hb5.mono (by simp))
    have hlen : (Lb.take (Lb.length - 4) ++ sum4 (sumF 1 (Lb.take (Lb.length - 4)))).length ≤ 1000 := by
     have := HNB.out
     rw [List.length_append, List.length_take]
     show _ + 4 ≤ 1000
     omega
    obtain ⟨L5, hL5⟩ : ∃ L5, Lb.take (Lb.length - 4) ++ sum4 (sumF 1 (Lb.take (Lb.length - 4))) = L5 := ⟨_, rfl⟩
    rw [hL5] at hr5 hlen
    obtain ⟨a5, c5, rfl, hl5, -⟩ := hr5.lies
    have hs5 := hbw5.size
    clear hL5 HCS
    go_wp2_with (at_builtin; refine wpList_appA _ rfl (.tmp 52) (.tmp 54) rfl w4.heap.size _ [] rfl he5 a5 _ c5 L5 rfl rfl hl5 (by simp; omega) hs5 ?_; intro v6 w6 hr6 hk6)
    go_meet
    exact ⟨_, [] ++ L5, rfl, World.ownsRow.mono hr6 hwz, by simpa using hlen, hb4.trans ((hbw5.trans hk6.b).mono hwz)⟩
 case rest =>
  obtain ⟨v, L2, hs1, hr5, hlen, hb5⟩ := hcut
  subst hs1
  rename_i wq _
  obtain ⟨g, xa, xc, rfl, hlc5, hgl, hown⟩ := byt_own hr5 hb5.size (by have := hb5.size; omega)
  have hcv := conv_any hr5
  have hdec := Decode_any L2 (by omega) xa xc hlc5 _ (hE.below hb5 hE.env.size) fun h4 => by
   obtain ⟨e1, e2, e3, -⟩ := hown (fun e => by rw [e] at h4; simp at h4)
   exact ⟨g, 0, e1, hgl, e3⟩
  have HDEC := Lib.hid hdec
  have HOWN := Lib.hid hown
  obtain ⟨S2, hS2⟩ : ∃ S2 : ByteArray, (⟨L2.toArray⟩ : ByteArray) = S2 := ⟨_, rfl⟩
  have hS2l : S2.data.toList = L2 := by rw [← hS2]
  obtain ⟨M, hM⟩ : ∃ M, L2.length = M := ⟨_, rfl⟩
  have hS2n : S2.size = M := by rw [← hS2, ← hM]; rfl
  have HM := Lib.hid hM
  rw [hS2] at hcv
  rw [hM] at hcv hlen hlc5 ⊢
  clear hr4' hb4 hdec hown
  go_wp2_with fail
  have hdc := HDEC.out
  rw [hM] at hdc
  refine hdc.mono ?_
  intro e w6 h6
  obtain ⟨ya, yc, rfl, hys, hb6⟩ := decn_form h6
  have hr6 := hr5.below hb6
  have hcv6 := conv_any hr6
  rw [hS2, hM] at hcv6
  have hgl6 := Nat.lt_of_lt_of_le hgl hb6.size
  have HOWN6 : Hid (M ≠ 0 → xa = some ⟨g, 0, none⟩ ∧ w.heap.size ≤ g ∧ Cel w6 g 0 L2 ∧ ∃ cur, w6.heap[g]? = some (.cells cur 5 (0, 0))) := fun h => by
   obtain ⟨e1, e2, e3, cur, e4⟩ := HOWN.out (fun e => h (by rw [← HM.out, e]; rfl))
   exact ⟨e1, e2, e3.below hb6 hgl, cur, (hb6.block g hgl).trans e4⟩
  have HYS : Hid (IsEs (fun h => h ≠ g ∧ h < w6.heap.size) w6 (decX L2) ya) := hys.more fun h hh => ⟨by omega, hh.2⟩
  have hb6 := hb5.trans (hb6.mono hb5.size)
  obtain ⟨XN, hXN⟩ : ∃ XN, (decX L2).length = XN := ⟨_, rfl⟩
  obtain ⟨DN, hDN⟩ : ∃ DN, decN L2 = DN := ⟨_, rfl⟩
  have HXN := Lib.hid hXN
  have HDN := Lib.hid hDN
  rw [hXN, hDN]
  have hss : (S2.toList == S2.toList) = true := by simp
  clear h6 hys hr5 hr6 hcv hdc HDEC HOWN hb5 hM hXN hDN hgl
  go_wp2_with fail
  clear hcv6 hss
  go_loopw [15] (fun i wr => ∃ j : Nat, i = .int .i64 (j : Nat) ∧ j ≤ M ∧ Below w.heap.size w wr ∧ wr.heap.size = w6.heap.size ∧ (∀ h, h ≠ g → wr.heap[h]? = w6.heap[h]?) ∧ (M ≠ 0 → ∃ (L' : List UInt8) (cur : Array Value), L'.length = M ∧ Cel wr g 0 L' ∧ wr.heap[g]? = some (.cells cur 5 (0, 0)))) (fun i _ => M - (intOf i).toNat)
  case atStart => exact ⟨0, rfl, Nat.zero_le _, hb6, rfl, fun _ _ => rfl, fun h => by
   obtain ⟨e1, e2, e3, cur, e4⟩ := HOWN6.out h
   exact ⟨L2, cur, HM.out, e3, e4⟩⟩
  case round =>
   obtain ⟨j, rfl, hj, hb, hsz, hoth, hrow⟩ := hrel
   have HOTH := Lib.hid hoth
   by_cases hlt : j < M
   ·have hd1 : decide (j < M) = true := by simpa using hlt
    have hlt2 : (j : Int) < (M : Int) := by omega
    obtain ⟨L', cur, hLl, hcel, hcur⟩ := hrow (by omega)
    obtain ⟨rfl, hgw, -, -⟩ := HOWN6.out (by omega)
    have hck := hcel j L'[j] (List.getElem?_eq_getElem (by omega))
    rw [Nat.zero_add] at hck
    obtain ⟨c', hc'⟩ := byte_inc L'[j]
    have hfz : wr.frozen? ⟨g, j, none⟩ = false := by simp [World.frozen?, hcur]
    have hcs := cel_setC (i := j) (c := c') hcel rfl (by omega)
    have hbs := hb.setCell (p := ⟨g, j, none⟩) hgw (.int .u8 (c'.toNat : Nat))
    have hcur2 : (wr.setCell ⟨g, j, none⟩ (.int .u8 (c'.toNat : Nat))).heap[g]? = some (.cells (cur.setIfInBounds j (.int .u8 (c'.toNat : Nat))) 5 (0, 0)) := by
     simp [World.setCell, Array.getElem?_modify, hcur]
    have hsz2 : (wr.setCell ⟨g, j, none⟩ (.int .u8 (c'.toNat : Nat))).heap.size = w6.heap.size := by
     rw [← hsz]
     simp [World.setCell]
    have hoth2 : Hid (∀ h, h ≠ g → (wr.setCell ⟨g, j, none⟩ (.int .u8 (c'.toNat : Nat))).heap[h]? = w6.heap[h]?) := fun h hh => by
     rw [← HOTH.out h hh]
     have h' : ¬ g = h := fun e => hh e.symm
     simp [World.setCell, Array.getElem?_modify, h']
    have hlen2 : (L'.set j c').length = M := by rw [List.length_set]; exact hLl
    clear hrow hoth hcel
    go_wp2_with fail
    go_roundw
    case rel => first | exact ⟨j + 1, by go_num, by omega, hbs, hsz2, hoth2.out, fun _ => ⟨_, _, hlen2, hcs, hcur2⟩⟩ | ((repeat apply Exists.intro); exact ⟨⟨j + 1, by go_num, by omega, hbs, hsz2, hoth2.out, fun _ => ⟨_, _, hlen2, hcs, hcur2⟩⟩, rfl⟩)
    case measure => simp [intOf]; omega
   ·have hd1 : decide (j < M) = false := by simpa using hlt
    have hys := (HYS.out).keep (w' := wr) fun h hh o => World.cell?_of_block (w := w6) (HOTH.out h hh.1)
    obtain ⟨cap7, O, hcv7, hsc, hcl7⟩ := bytes_lay wr S2
    rw [hS2n] at hcv7 hsc
    rw [hS2l] at hcl7
    have hb7 : Below wr.heap.size wr (wr.alloc O).drew := (below_alloc wr O).drew
    have hbw7 := hb.trans (hb7.mono hb.size)
    have hrd := rDecodeE_any L2 (by have := HM.out; omega) (some ⟨wr.heap.size, 0, none⟩) cap7 (by have := HM.out; omega) (wr.alloc O).drew fun _ => ⟨wr.heap.size, 0, rfl, by show wr.heap.size < (wr.alloc O).heap.size; simp, hcl7⟩
    rw [HM.out] at hrd
    have HRD := Lib.hid hrd
    have hys7 : IsEs (· < (wr.alloc O).drew.heap.size) (wr.alloc O).drew (decX L2) ya := IsEs.later (hys.more fun h hh => by have := hh.2; omega) hb7
    clear hrow hoth hrd hcl7 hys hsz
    go_wp2_with fail
    refine HRD.out.mono ?_
    intro e w8 h8
    obtain ⟨za, zc, rfl, hzs, hb8⟩ := decn_form h8
    have hys8 := hys7.later hb8
    have hzs8 : IsEs (· < w8.heap.size) w8 (decX L2) za := hzs.more fun g hg => hg.2
    have hbw8 := hbw7.trans (hb8.mono hbw7.size)
    rw [HXN.out, HDN.out]
    have hev := rEvents_any (decX L2) (by have := decX_len L2; have := HM.out; omega) ya za yc zc w8 hys8 hzs8 (decX_nd L2)
    rw [HXN.out] at hev
    have HEV := Lib.hid hev
    have hdd : ((DN : Int) == (DN : Int)) = true := by simp
    clear h8 hys7 hys8 hzs hzs8 hb8 hb7 hbw7 hev hcv7
    go_wp2_with fail
    refine HEV.out.mono ?_
    rintro e w9 ⟨rfl, hb9⟩
    have hbw9 := hbw8.trans (hb9.mono hbw8.size)
    clear hbw8 hb9
    go_wp2_with fail
    refine (num23_any _ _).mono ?_
    rintro e w98 ⟨rfl, rfl⟩
    go_wp2_with fail
    refine (tworks_any _ (hE.below hbw9 hE.env.size)).mono ?_
    rintro e w99 ⟨rfl, hb99⟩
    go_wp2_with fail
    go_ret
    exact ⟨rfl, hbw9.trans (hb99.mono hbw9.size)⟩
end Go.Proofs.YtjldbbcdhdfliaaGreatDoor
