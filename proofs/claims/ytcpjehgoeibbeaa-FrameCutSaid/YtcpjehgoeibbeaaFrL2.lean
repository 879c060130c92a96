/- FrameBack. -/
import Derived.Test.YtcpjehgoeibbeaaFrL1
namespace Go.Proofs.Ytcpjehgoeibbeaa
open Go.RowKit
set_option linter.unusedVariables false
namespace Frm
open Var
theorem putF_pos {f : Fr} (h : Put f) : 1 ≤ (putF f).length := by
  have := putF_ne f h.may
  exact List.length_pos_iff.2 this
theorem putL_count : ∀ (l : List Fr), (∀ g ∈ l, Put g) → l.length ≤ (putL l).length
  | [], _ => by simp
  | f :: l, h => by
    have := putL_count l (fun g hg => h g (by simp [hg]))
    have := putF_pos (h f (by simp))
    rw [putL_cons, List.length_append, List.length_cons]
    omega
theorem joined_len (l : List Fr) : (joined l).length ≤ l.length := by
  have h : ∀ (l o : List Fr), (l.foldl addJ o).length ≤ o.length + l.length := by
    intro l
    induction l with
    | nil => intro o; simp
    | cons f l ih =>
      intro o
      have h1 := ih (addJ o f)
      have h2 : (addJ o f).length ≤ o.length + 1 := by
        rcases List.eq_nil_or_concat o with rfl | ⟨p, g, rfl⟩
        · simp [addJ_nil]
        · rw [List.concat_eq_append, addJ_snoc]; split <;> simp
      rw [List.foldl_cons, List.length_cons]
      omega
  simpa [joined] using h l []
theorem cid_may {f : Fr} (h : mayF f = true) : f.cid.length ≤ 1000000 := by
  obtain ⟨_, hn, _, hko⟩ := may_parts h
  by_cases h24 : f.kind = 24
  · unfold kindOk at hko
    rw [if_neg (by omega), if_neg (by omega), if_neg (by omega), if_neg (by omega), if_pos h24] at hko
    simp at hko
    omega
  · have hc : hCid f.kind = false := by simp [hCid, h24]
    have e : (bareF f).cid = f.cid := by simp [bareF, hc]
    simp only [nothing, Bool.and_eq_true, decide_eq_true_eq] at hn
    have := hn.2
    rw [e] at this
    omega
theorem cid_le {ps : List FM} {f : Fr} (h : ∀ p ∈ ps, mayF p.f = true) (hf : f ∈ ps.map FM.f) : f.cid.length ≤ 1000000 := by
  obtain ⟨p, hp, rfl⟩ := List.mem_map.1 hf
  exact cid_may (h p hp)
set_option maxHeartbeats 4000000 in
set_option maxRecDepth 100000 in
theorem back_law (a : Option Addr) (n ac : Nat) (L : List FM) (b : Option Addr) (m bc : Nat) (B : List Int) (w : World) (hn : n = L.length) (hL : Fs w a ac L) (hl : n ≤ 140737488355328)
    (hs : ∀ p ∈ L, p.f.data.length ≤ 140737488355328 ∧ p.f.cid.length ≤ 140737488355328 ∧ p.f.acks.length ≤ 140737488355328) (hm : m = B.length) (hB : Sl .u8 w b bc B) (hbl : m ≤ 140737488355328) :
    Calls Try.prog 3 #[.slice a n ac, .slice b m bc] w fun e w' => e = .returned (.bool true) ∧ Below w.heap.size w w' := by
  have HL := Lib.hid hL
  have HN := Lib.hid hn
  have HB := Lib.hid hB
  have HBN := Lib.hid hm
  have HS := Lib.hid hs
  have HBY := Lib.hid (sl_byte hB)
  have HGR := Lib.hid (show grS L ≤ 4000 → Few L from few_of fun p hp => (hL.ok p hp).fr)
  have HOK := Lib.hid (show ∀ p ∈ L, FrOk p.f from fun p hp => (hL.ok p hp).fr)
  clear hL hn hB hm hs
  go_enter Try.func3, Try.ntmps3
  go_wp2_with (fail)
  refine (known_any w).mono ?_
  rintro e w1 ⟨rfl, b1⟩
  have K1 := Lib.hid b1
  clear b1
  go_wp2_with (fail)
  refine (great_any a n ac L w1 HN.out (HL.out.below K1.out) HS.out hl).mono ?_
  rintro e w2 ⟨⟨v, rfl, hv⟩, b2⟩
  have K2 := Lib.hid (below_on K1.out b2 K1.out.size)
  clear b2
  cases v with
  | true =>
    clear hv
    go_wp2_with (fail)
    go_returns
    exact ⟨rfl, K2.out⟩
  | false =>
    have FEW := Lib.hid (HGR.out (hv rfl))
    clear hv
    by_cases hbig : m ≤ 3000
    · have gbig : decide (3000 < m) = false := by simp; omega
      have hln : n ≤ 4000 := by have := FEW.out.len; have := HN.out; omega
      go_wp2_with (fail)
      by_cases hmay : ∀ p ∈ L, mayF p.f = true
      · have HMAY := Lib.hid hmay
        have hpl := FEW.out.put L.length (by rw [List.take_length]; exact hmay)
        rw [List.take_length] at hpl
        have hput := FEW.out.put_ok HOK.out hmay
        have HPUT := Lib.hid hput
        clear hmay hput
        refine (fappend_any none 0 0 [] a n ac L w2 rfl HN.out (Sl.nil _ _) (HL.out.below K2.out) FEW.out.smm (by have := HN.out; omega) (fun k hk => by have := FEW.out.put k hk; simp; omega)).mono ?_
        rintro e w3 ⟨b3, yes3, _⟩
        obtain ⟨aq, cq, mq, rfl, hmq, hoq⟩ := yes3 HMAY.out
        rw [List.nil_append] at hmq hoq
        have K3 := Lib.hid (below_on K2.out b3 K2.out.size)
        have hmqb : mq ≤ 480000 := by have := hmq.out; omega
        clear yes3 b3 hpl
        rcases Nat.eq_zero_or_pos n with h0 | h0
        · have g0 : decide (0 < n) = false := by simp; omega
          have H0 := Lib.hid h0
          clear h0
          go_wp2_with (fail)
          refine (list_frame b m bc B w3 HBN.out (HB.out.below K3.out) (by have := HBN.out; omega)).mono ?_
          rintro e w9 ⟨b9, yes9, no9⟩
          have K9 := Lib.hid (below_on K3.out b9 K3.out.size)
          cases hl9 : listF B with
          | none =>
            obtain rfl := no9 hl9
            clear yes9 no9 hl9 b9
            go_wp2_with (fail)
            go_returns
            exact ⟨rfl, K9.out⟩
          | some l9 =>
            obtain ⟨ps9, a9, c9, m9, rfl, hps9, hm9, hfs9, hsm9⟩ := yes9 l9 hl9
            clear yes9 no9 b9
            obtain ⟨g1, g2, g3⟩ := listF_back hl9 HBY.out (by have := HBN.out; omega)
            rw [← hps9.out] at g1 g2 g3
            have hmay9 : ∀ p ∈ ps9, mayF p.f = true := fun p hp => (g1 p.f (List.mem_map.2 ⟨p, hp, rfl⟩)).may
            have hlen9 : ps9.length ≤ 3008 := by
              have := putL_count (ps9.map FM.f) g1
              rw [List.length_map] at this
              have := HBN.out
              omega
            have HMAY9 := Lib.hid hmay9
            have G2 := Lib.hid g2
            have G3 := Lib.hid g3
            have hm9b : m9 ≤ 3008 := by have := hm9.out; omega
            clear hl9 g1 g2 g3 hmay9
            go_wp2_with (fail)
            refine (fappend_any none 0 0 [] a9 m9 c9 ps9 w9 rfl hm9.out (Sl.nil _ _) hfs9.out hsm9.out (by omega) (fun k _ => by have h1 := putAll_le ps9 k; rw [putAll_putL ps9] at h1; have := G3.out; have := HBN.out; simp; omega)).mono ?_
            rintro e w10 ⟨b10, yes10, _⟩
            obtain ⟨aa, ca, ma, rfl, hma, hoa⟩ := yes10 HMAY9.out
            rw [List.nil_append] at hma hoa
            have K10 := Lib.hid (below_on K9.out b10 K9.out.size)
            have FS9 := Lib.hid (hfs9.out.below b10)
            have hmab : ma ≤ m + 8 := by have := hma.out; have := G3.out; have := HBN.out; rw [putAll_putL] at *; omega
            clear yes10 b10 hfs9
            go_wp2_with (fail)
            refine (list_frame aa ma ca (putAll ps9) w10 hma.out hoa.out.sl (by have := hma.out; omega)).mono ?_
            rintro e w11 ⟨b11, yes11, _⟩
            obtain ⟨ps11, a11, c11, m11, rfl, hps11, hm11, hfs11, hsm11⟩ := yes11 _ (by rw [putAll_putL]; exact G2.out)
            have K11 := Lib.hid (below_on K10.out b11 K10.out.size)
            have hmm : m9 = m11 := by
              have h1 := congrArg List.length hps11.out
              rw [List.length_map, List.length_map] at h1
              have := hm9.out; have := hm11.out; omega
            subst hmm
            have FS11 := Lib.hid (FS9.out.below b11)
            clear yes11 b11 FS9
            go_wp2_with (fail)
            refine (sameall_yes a11 a9 m9 c11 c9 ps11 ps9 w11 hm11.out hfs11.out FS11.out hps11.out (fun p hp => ?_) (by omega)).mono ?_
            · obtain ⟨k1, k2, k3⟩ := hsm11.out p hp
              have hin : p.f ∈ ps9.map FM.f := by rw [← hps11.out]; exact List.mem_map.2 ⟨p, hp, rfl⟩
              exact ⟨k1, cid_le (HMAY9.out) hin, k3⟩
            rintro e w12 ⟨rfl, b12⟩
            have K12 := Lib.hid (below_on K11.out b12 K11.out.size)
            clear b12
            go_wp2_with (fail)
            go_returns
            exact ⟨congrArg (fun v => Ending.returned (.bool v)) (decide_eq_true (by omega : (ma : Int) ≤ (m : Int) + 8)), K12.out⟩
        · have g0 : decide (0 < n) = true := by simp; omega
          go_wp2_with (fail)
          refine (joined_any a n ac L w3 HN.out (HL.out.below K3.out) (fun p hp h0 => kind0_le (HMAY.out p hp) h0) hln).mono ?_
          rintro e w4 ⟨qs, ja, jc, jm, rfl, hqs, hjm, hjf, b4, hjp⟩
          have K4 := Lib.hid (below_on K3.out b4 K3.out.size)
          have HOQ := Lib.hid (hoq.out.below b4)
          have HPUT2 := Lib.hid (show fitsJ (qs.map FM.f) = true → listF (putAll L) = some (qs.map FM.f) from fun hf => by
            rw [hqs.out] at hf ⊢
            rw [putAll_putL]
            refine listF_joined _ HPUT.out (fun h => ?_) hf
            have h3 := congrArg List.length h
            rw [List.length_map, List.length_nil] at h3
            have := HN.out
            omega)
          have HSQ := Lib.hid (show ∀ p ∈ qs, p.f.data.length ≤ 1000000 ∧ p.f.cid.length ≤ 1000000 ∧ p.f.acks.length ≤ 100000000 from hjp.out (fun f => f.data.length ≤ 1000000 ∧ f.cid.length ≤ 1000000 ∧ f.acks.length ≤ 100000000) (fun f v h => h) (fun p hp => by obtain ⟨k1, k2, k3⟩ := FEW.out.sm p hp; exact ⟨by omega, by omega, by omega⟩))
          have hjmb : jm ≤ 4000 := by
            have h1 := congrArg List.length hqs.out
            have h2 := joined_len (L.map FM.f)
            rw [List.length_map] at h1 h2
            have := hjm.out
            have := HN.out
            omega
          have HQF := Lib.hid (show fitsJ (qs.map FM.f) = fitsJ ((qs.take jm).map FM.f) by rw [hjm.out, List.take_length])
          clear b4 hoq hqs hjp
          go_wp2_with (fail)
          go_loopw [8, 10, 43] (fun fits _ i wr => ∃ k : Nat, fits = .bool (fitsJ ((qs.take k).map FM.f)) ∧ i = .int .i64 k ∧ k ≤ jm ∧ Hid (Below w.heap.size w wr) ∧ Hid (Below w4.heap.size w4 wr)) (fun _ _ i _ => jm - (intOf i).toNat)
          case atStart => exact ⟨0, rfl, rfl, by omega, K4, Lib.hid (Below.refl _ _)⟩
          case round =>
            obtain ⟨k, rfl, rfl, hk, hbw, hbw4⟩ := hrel
            by_cases hlt : k < jm
            · have hkl : k < qs.length := by have := hjm.out; omega
              obtain ⟨bb, off, ea, hlb, hc⟩ := (hjf.out.below hbw4.out).at_ k hkl
              subst ea
              have hpm : qs[k] ∈ qs := List.getElem_mem hkl
              obtain ⟨p, hp⟩ : ∃ p, qs[k] = p := ⟨_, rfl⟩
              rw [hp] at hc hpm
              have hst : fitsJ ((qs.take (k + 1)).map FM.f) = (fitsJ ((qs.take k).map FM.f) && (!decide (p.f.kind = 0) || decide (p.f.n ≤ 65536))) := by
                rw [List.take_succ_eq_append_getElem hkl, hp, List.map_append]
                simp [fitsJ]
              have POK := Lib.hid ((hjf.out.ok p hpm).below hbw4.out)
              have HC := Lib.hid hc
              obtain ⟨v, hv⟩ : ∃ v, fitsJ ((qs.take k).map FM.f) = v := ⟨_, rfl⟩
              rw [hv] at hst ⊢
              have HST := Lib.hid hst
              clear hp hc hpm hkl hv hst
              go_wp2_with (with_reducible refine stop_ldf ?_)
              refine Stop.out ?_
              refine wpList_loadPart p.list Try.underlying36 rfl (by rw [p.length POK.out.fr.tok16]; exact fr_size) rfl rfl rfl HC.out ?_
              go_wp2_with (with_reducible refine stop_stf ?_)
              refine Stop.out ?_
              refine wpList_storeF rfl rfl p (fm0 0) POK.out.fr.tok16 rfl rfl rfl (fm0_at rfl) ?_
              intro w5 hb5 o5
              have b5 : Below wr.heap.size wr w5 := below_onto ((Below.refl _ _).alloc (Nat.le_refl _) _) o5 (by simp) (by intro z hz h; omega)
              have K5 := Lib.hid (below_on hbw.out b5 hbw.out.size)
              have K54 := Lib.hid (below_on hbw4.out b5 hbw4.out.size)
              have FC5 := FB.fc hb5 POK.out.fr.tok16
              have c0 := FC5.c0
              have c5 := FC5.c5
              have lz5 : wr.heap.size < w5.heap.size := Blk.lt hb5
              obtain ⟨kd, hkd⟩ : ∃ kd, p.f.kind = kd := ⟨_, rfl⟩
              obtain ⟨pn, hpn⟩ : ∃ pn, p.f.n = pn := ⟨_, rfl⟩
              have hst2 := HST.out
              rw [hkd, hpn] at hst2
              have HST2 := Lib.hid hst2
              rw [hkd] at c0
              rw [hpn] at c5
              clear b5 hb5 o5 FC5 hkd hpn hst2
              cases v with
              | false =>
                go_wp2_with (fail)
                exact ⟨⟨k + 1, by rw [HST2.out]; rfl, by go_num, by omega, K5, K54⟩, by simp [intOf]; omega⟩
              | true =>
                by_cases hk0 : kd = 0
                · have gk : decide (kd = 0) = true := by simpa using hk0
                  by_cases hn6 : pn ≤ 65536
                  · have gn : decide (pn ≤ 65536) = true := by simpa using hn6
                    go_wp2_with (fail)
                    exact ⟨⟨k + 1, by rw [HST2.out, gk, gn]; rfl, by go_num, by omega, K5, K54⟩, by simp [intOf]; omega⟩
                  · have gn : decide (pn ≤ 65536) = false := by simpa using hn6
                    go_wp2_with (fail)
                    exact ⟨⟨k + 1, by rw [HST2.out, gk, gn]; rfl, by go_num, by omega, K5, K54⟩, by simp [intOf]; omega⟩
                · have gk : decide (kd = 0) = false := by simpa using hk0
                  go_wp2_with (fail)
                  exact ⟨⟨k + 1, by rw [HST2.out, gk]; rfl, by go_num, by omega, K5, K54⟩, by simp [intOf]; omega⟩
            · obtain rfl : k = jm := by omega
              obtain ⟨v, hv⟩ : ∃ v, fitsJ ((qs.take k).map FM.f) = v := ⟨_, rfl⟩
              rw [hv]
              have HV := Lib.hid (show fitsJ (qs.map FM.f) = v from HQF.out.trans hv)
              clear hv
              go_wp2_with (fail)
              refine (list_frame aq mq cq (putAll L) wr hmq.out (HOQ.out.sl.below hbw4.out) (by have := hmq.out; omega)).mono ?_
              rintro e w6 ⟨b6, yes6, no6⟩
              have K6 := Lib.hid (below_on hbw.out b6 hbw.out.size)
              have K64 := Lib.hid (below_on hbw4.out b6 hbw4.out.size)
              clear b6
              cases v with
              | true =>
                obtain ⟨ps6, a6, c6, m6, rfl, hps6, hm6, hfs6, hsm6⟩ := yes6 _ (HPUT2.out HV.out)
                have hmm : k = m6 := by
                  have h1 := congrArg List.length hps6.out
                  rw [List.length_map, List.length_map] at h1
                  have := hm6.out; have := hjm.out; omega
                have HMM := Lib.hid hmm
                clear yes6 no6
                have HEQ := Lib.hid (show ps6.map FM.f = qs.map FM.f from hps6.out)
                have FQ := Lib.hid (hjf.out.below K64.out)
                have HSP := Lib.hid (show ∀ p ∈ ps6, p.f.data.length ≤ 1000000 ∧ p.f.cid.length ≤ 1000000 ∧ p.f.acks.length ≤ 100000000 from fun p hp => by
                  have hin : p.f ∈ qs.map FM.f := by rw [← hps6.out]; exact List.mem_map.2 ⟨p, hp, rfl⟩
                  obtain ⟨q, hq, e⟩ := List.mem_map.1 hin
                  rw [← e]
                  exact HSQ.out q hq)
                subst hmm
                go_wp2_with (fail)
                refine (sameall_yes a6 ja k c6 jc ps6 qs w6 hm6.out hfs6.out FQ.out HEQ.out HSP.out (by omega)).mono ?_
                rintro e w7 ⟨rfl, b7⟩
                have K7 := Lib.hid (below_on K6.out b7 K6.out.size)
                clear b7
                go_wp2_with (fail)
                refine (list_frame b m bc B w7 HBN.out (HB.out.below K7.out) (by have := HBN.out; omega)).mono ?_
                rintro e w9 ⟨b9, yes9, no9⟩
                have K9 := Lib.hid (below_on K7.out b9 K7.out.size)
                cases hl9 : listF B with
                | none =>
                  obtain rfl := no9 hl9
                  clear yes9 no9 hl9 b9
                  go_wp2_with (fail)
                  go_returns
                  exact ⟨rfl, K9.out⟩
                | some l9 =>
                  obtain ⟨ps9, a9, c9, m9, rfl, hps9, hm9, hfs9, hsm9⟩ := yes9 l9 hl9
                  clear yes9 no9 b9
                  obtain ⟨g1, g2, g3⟩ := listF_back hl9 HBY.out (by have := HBN.out; omega)
                  rw [← hps9.out] at g1 g2 g3
                  have hmay9 : ∀ p ∈ ps9, mayF p.f = true := fun p hp => (g1 p.f (List.mem_map.2 ⟨p, hp, rfl⟩)).may
                  have hlen9 : ps9.length ≤ 3008 := by
                    have := putL_count (ps9.map FM.f) g1
                    rw [List.length_map] at this
                    have := HBN.out
                    omega
                  have HMAY9 := Lib.hid hmay9
                  have G2 := Lib.hid g2
                  have G3 := Lib.hid g3
                  have hm9b : m9 ≤ 3008 := by have := hm9.out; omega
                  clear hl9 g1 g2 g3 hmay9
                  go_wp2_with (fail)
                  refine (fappend_any none 0 0 [] a9 m9 c9 ps9 w9 rfl hm9.out (Sl.nil _ _) hfs9.out hsm9.out (by omega) (fun k _ => by have h1 := putAll_le ps9 k; rw [putAll_putL ps9] at h1; have := G3.out; have := HBN.out; simp; omega)).mono ?_
                  rintro e w10 ⟨b10, yes10, _⟩
                  obtain ⟨aa, ca, ma, rfl, hma, hoa⟩ := yes10 HMAY9.out
                  rw [List.nil_append] at hma hoa
                  have K10 := Lib.hid (below_on K9.out b10 K9.out.size)
                  have FS9 := Lib.hid (hfs9.out.below b10)
                  have hmab : ma ≤ m + 8 := by have := hma.out; have := G3.out; have := HBN.out; rw [putAll_putL] at *; omega
                  clear yes10 b10 hfs9
                  go_wp2_with (fail)
                  refine (list_frame aa ma ca (putAll ps9) w10 hma.out hoa.out.sl (by have := hma.out; omega)).mono ?_
                  rintro e w11 ⟨b11, yes11, _⟩
                  obtain ⟨ps11, a11, c11, m11, rfl, hps11, hm11, hfs11, hsm11⟩ := yes11 _ (by rw [putAll_putL]; exact G2.out)
                  have K11 := Lib.hid (below_on K10.out b11 K10.out.size)
                  have hmm : m9 = m11 := by
                    have h1 := congrArg List.length hps11.out
                    rw [List.length_map, List.length_map] at h1
                    have := hm9.out; have := hm11.out; omega
                  subst hmm
                  have FS11 := Lib.hid (FS9.out.below b11)
                  clear yes11 b11 FS9
                  go_wp2_with (fail)
                  refine (sameall_yes a11 a9 m9 c11 c9 ps11 ps9 w11 hm11.out hfs11.out FS11.out hps11.out (fun p hp => ?_) (by omega)).mono ?_
                  · obtain ⟨k1, k2, k3⟩ := hsm11.out p hp
                    have hin : p.f ∈ ps9.map FM.f := by rw [← hps11.out]; exact List.mem_map.2 ⟨p, hp, rfl⟩
                    exact ⟨k1, cid_le (HMAY9.out) hin, k3⟩
                  rintro e w12 ⟨rfl, b12⟩
                  have K12 := Lib.hid (below_on K11.out b12 K11.out.size)
                  clear b12
                  go_wp2_with (fail)
                  go_returns
                  exact ⟨congrArg (fun v => Ending.returned (.bool v)) (decide_eq_true (by omega : (ma : Int) ≤ (m : Int) + 8)), K12.out⟩
              | false =>
                obtain ⟨x, y, rfl⟩ : ∃ x y, e = .returned (.tuple #[x, y]) := by
                  cases h : listF (putAll L) with
                  | none => exact ⟨_, _, no6 h⟩
                  | some l => obtain ⟨_, _, _, _, h1, _⟩ := yes6 l h; exact ⟨_, _, h1⟩
                clear yes6 no6
                go_wp2_with (fail)
                refine (list_frame b m bc B w6 HBN.out (HB.out.below K6.out) (by have := HBN.out; omega)).mono ?_
                rintro e w9 ⟨b9, yes9, no9⟩
                have K9 := Lib.hid (below_on K6.out b9 K6.out.size)
                cases hl9 : listF B with
                | none =>
                  obtain rfl := no9 hl9
                  clear yes9 no9 hl9 b9
                  go_wp2_with (fail)
                  go_returns
                  exact ⟨rfl, K9.out⟩
                | some l9 =>
                  obtain ⟨ps9, a9, c9, m9, rfl, hps9, hm9, hfs9, hsm9⟩ := yes9 l9 hl9
                  clear yes9 no9 b9
                  obtain ⟨g1, g2, g3⟩ := listF_back hl9 HBY.out (by have := HBN.out; omega)
                  rw [← hps9.out] at g1 g2 g3
                  have hmay9 : ∀ p ∈ ps9, mayF p.f = true := fun p hp => (g1 p.f (List.mem_map.2 ⟨p, hp, rfl⟩)).may
                  have hlen9 : ps9.length ≤ 3008 := by
                    have := putL_count (ps9.map FM.f) g1
                    rw [List.length_map] at this
                    have := HBN.out
                    omega
                  have HMAY9 := Lib.hid hmay9
                  have G2 := Lib.hid g2
                  have G3 := Lib.hid g3
                  have hm9b : m9 ≤ 3008 := by have := hm9.out; omega
                  clear hl9 g1 g2 g3 hmay9
                  go_wp2_with (fail)
                  refine (fappend_any none 0 0 [] a9 m9 c9 ps9 w9 rfl hm9.out (Sl.nil _ _) hfs9.out hsm9.out (by omega) (fun k _ => by have h1 := putAll_le ps9 k; rw [putAll_putL ps9] at h1; have := G3.out; have := HBN.out; simp; omega)).mono ?_
                  rintro e w10 ⟨b10, yes10, _⟩
                  obtain ⟨aa, ca, ma, rfl, hma, hoa⟩ := yes10 HMAY9.out
                  rw [List.nil_append] at hma hoa
                  have K10 := Lib.hid (below_on K9.out b10 K9.out.size)
                  have FS9 := Lib.hid (hfs9.out.below b10)
                  have hmab : ma ≤ m + 8 := by have := hma.out; have := G3.out; have := HBN.out; rw [putAll_putL] at *; omega
                  clear yes10 b10 hfs9
                  go_wp2_with (fail)
                  refine (list_frame aa ma ca (putAll ps9) w10 hma.out hoa.out.sl (by have := hma.out; omega)).mono ?_
                  rintro e w11 ⟨b11, yes11, _⟩
                  obtain ⟨ps11, a11, c11, m11, rfl, hps11, hm11, hfs11, hsm11⟩ := yes11 _ (by rw [putAll_putL]; exact G2.out)
                  have K11 := Lib.hid (below_on K10.out b11 K10.out.size)
                  have hmm : m9 = m11 := by
                    have h1 := congrArg List.length hps11.out
                    rw [List.length_map, List.length_map] at h1
                    have := hm9.out; have := hm11.out; omega
                  subst hmm
                  have FS11 := Lib.hid (FS9.out.below b11)
                  clear yes11 b11 FS9
                  go_wp2_with (fail)
                  refine (sameall_yes a11 a9 m9 c11 c9 ps11 ps9 w11 hm11.out hfs11.out FS11.out hps11.out (fun p hp => ?_) (by omega)).mono ?_
                  · obtain ⟨k1, k2, k3⟩ := hsm11.out p hp
                    have hin : p.f ∈ ps9.map FM.f := by rw [← hps11.out]; exact List.mem_map.2 ⟨p, hp, rfl⟩
                    exact ⟨k1, cid_le (HMAY9.out) hin, k3⟩
                  rintro e w12 ⟨rfl, b12⟩
                  have K12 := Lib.hid (below_on K11.out b12 K11.out.size)
                  clear b12
                  go_wp2_with (fail)
                  go_returns
                  exact ⟨congrArg (fun v => Ending.returned (.bool v)) (decide_eq_true (by omega : (ma : Int) ≤ (m : Int) + 8)), K12.out⟩
      · refine (fappend_any none 0 0 [] a n ac L w2 rfl HN.out (Sl.nil _ _) (HL.out.below K2.out) FEW.out.smm (by have := HN.out; omega) (fun k hk => by have := FEW.out.put k hk; simp; omega)).mono ?_
        rintro e w3 ⟨b3, _, no3⟩
        obtain rfl := no3 hmay
        have K3 := Lib.hid (below_on K2.out b3 K2.out.size)
        clear hmay no3 b3
        go_wp2_with (fail)
        refine (list_frame b m bc B w3 HBN.out (HB.out.below K3.out) (by have := HBN.out; omega)).mono ?_
        rintro e w9 ⟨b9, yes9, no9⟩
        have K9 := Lib.hid (below_on K3.out b9 K3.out.size)
        cases hl9 : listF B with
        | none =>
          obtain rfl := no9 hl9
          clear yes9 no9 hl9 b9
          go_wp2_with (fail)
          go_returns
          exact ⟨rfl, K9.out⟩
        | some l9 =>
          obtain ⟨ps9, a9, c9, m9, rfl, hps9, hm9, hfs9, hsm9⟩ := yes9 l9 hl9
          clear yes9 no9 b9
          obtain ⟨g1, g2, g3⟩ := listF_back hl9 HBY.out (by have := HBN.out; omega)
          rw [← hps9.out] at g1 g2 g3
          have hmay9 : ∀ p ∈ ps9, mayF p.f = true := fun p hp => (g1 p.f (List.mem_map.2 ⟨p, hp, rfl⟩)).may
          have hlen9 : ps9.length ≤ 3008 := by
            have := putL_count (ps9.map FM.f) g1
            rw [List.length_map] at this
            have := HBN.out
            omega
          have HMAY9 := Lib.hid hmay9
          have G2 := Lib.hid g2
          have G3 := Lib.hid g3
          have hm9b : m9 ≤ 3008 := by have := hm9.out; omega
          clear hl9 g1 g2 g3 hmay9
          go_wp2_with (fail)
          refine (fappend_any none 0 0 [] a9 m9 c9 ps9 w9 rfl hm9.out (Sl.nil _ _) hfs9.out hsm9.out (by omega) (fun k _ => by have h1 := putAll_le ps9 k; rw [putAll_putL ps9] at h1; have := G3.out; have := HBN.out; simp; omega)).mono ?_
          rintro e w10 ⟨b10, yes10, _⟩
          obtain ⟨aa, ca, ma, rfl, hma, hoa⟩ := yes10 HMAY9.out
          rw [List.nil_append] at hma hoa
          have K10 := Lib.hid (below_on K9.out b10 K9.out.size)
          have FS9 := Lib.hid (hfs9.out.below b10)
          have hmab : ma ≤ m + 8 := by have := hma.out; have := G3.out; have := HBN.out; rw [putAll_putL] at *; omega
          clear yes10 b10 hfs9
          go_wp2_with (fail)
          refine (list_frame aa ma ca (putAll ps9) w10 hma.out hoa.out.sl (by have := hma.out; omega)).mono ?_
          rintro e w11 ⟨b11, yes11, _⟩
          obtain ⟨ps11, a11, c11, m11, rfl, hps11, hm11, hfs11, hsm11⟩ := yes11 _ (by rw [putAll_putL]; exact G2.out)
          have K11 := Lib.hid (below_on K10.out b11 K10.out.size)
          have hmm : m9 = m11 := by
            have h1 := congrArg List.length hps11.out
            rw [List.length_map, List.length_map] at h1
            have := hm9.out; have := hm11.out; omega
          subst hmm
          have FS11 := Lib.hid (FS9.out.below b11)
          clear yes11 b11 FS9
          go_wp2_with (fail)
          refine (sameall_yes a11 a9 m9 c11 c9 ps11 ps9 w11 hm11.out hfs11.out FS11.out hps11.out (fun p hp => ?_) (by omega)).mono ?_
          · obtain ⟨k1, k2, k3⟩ := hsm11.out p hp
            have hin : p.f ∈ ps9.map FM.f := by rw [← hps11.out]; exact List.mem_map.2 ⟨p, hp, rfl⟩
            exact ⟨k1, cid_le (HMAY9.out) hin, k3⟩
          rintro e w12 ⟨rfl, b12⟩
          have K12 := Lib.hid (below_on K11.out b12 K11.out.size)
          clear b12
          go_wp2_with (fail)
          go_returns
          exact ⟨congrArg (fun v => Ending.returned (.bool v)) (decide_eq_true (by omega : (ma : Int) ≤ (m : Int) + 8)), K12.out⟩
    · have gbig : decide (3000 < m) = true := by simp; omega
      go_wp2_with (fail)
      go_returns
      exact ⟨rfl, K2.out⟩
set_option maxRecDepth 100000 in
theorem walk_FrameBack (H : Type) (enc : TypeId × Value → H) (w : World) (base : Nat) (v0 : Value) (d0 : DataW H) (p0 : List MemPlace) (v1 : Value) (d1 : DataW H) (p1 : List MemPlace)
    (o0 : Value.okWide Try.prog w .any base 22 v0) (h0 : DataW.Trod enc Try.prog w 0 (fun _ => true) true 22 v0 d0 p0)
    (o1 : Value.okWide Try.prog w .any base 23 v1) (h1 : DataW.Trod enc Try.prog w 0 (fun _ => true) true 23 v1 d1 p1)
    (z0 : Sized Try.prog 22 d0) (z1 : Sized Try.prog 23 d1) :
    Calls Try.prog 3 #[v0, v1] w fun e w' => e = .returned (.bool true) ∧ Below w.heap.size w w' := by
  obtain ⟨a, L, cap, rfl, h2, h3, h4⟩ := open_frames o0 h0 z0
  obtain ⟨b, B, bc, rfl, h5, h6⟩ := open_bys o1 h1 z1
  exact back_law a L.length cap L b B.length bc B w rfl h2 h3 h4 rfl h5 h6
end Frm
end Go.Proofs.Ytcpjehgoeibbeaa
