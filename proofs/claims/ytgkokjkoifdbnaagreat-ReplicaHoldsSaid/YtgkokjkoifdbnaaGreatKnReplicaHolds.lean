import Derived.Test.YtgkokjkoifdbnaaGreatTies
import Derived.Test.YtgkokjkoifdbnaaGreatKnReplicaHolds0
import Derived.Test.YtgkokjkoifdbnaaGreatKnReplicaHolds1
import Derived.Test.YtgkokjkoifdbnaaGreatKnReplicaHolds2
import Derived.Test.YtgkokjkoifdbnaaGreatKnReplicaHolds3
import Derived.Test.YtgkokjkoifdbnaaGreatKnReplicaHolds4
import Derived.Test.YtgkokjkoifdbnaaGreatKnReplicaHolds5
import Derived.Test.YtgkokjkoifdbnaaGreatKnReplicaHolds6
/- What is known, and that it is so. -/
namespace Go.Proofs.YtgkokjkoifdbnaaGreat.knReplicaHolds
open Go.Am Go.Am.Fs Go.Am.KnReplicaHolds
noncomputable def l : List Known := [⟨22, true, a0, r0⟩, ⟨23, false, a1, r1⟩, ⟨22, true, a2, r2⟩, ⟨23, false, a3, r3⟩, ⟨22, true, a4, r4⟩, ⟨23, false, a5, r5⟩, ⟨22, true, a6, r6⟩, ⟨23, false, a7, r7⟩, ⟨22, true, a8, r8⟩, ⟨23, false, a9, r9⟩, ⟨22, true, a10, r10⟩, ⟨23, false, a11, r11⟩, ⟨22, true, a12, r12⟩, ⟨23, false, a13, r13⟩, ⟨22, true, a14, r14⟩, ⟨23, false, a15, r15⟩, ⟨22, true, a16, r16⟩, ⟨23, false, a17, r17⟩, ⟨22, true, a18, r18⟩, ⟨23, false, a19, r19⟩, ⟨22, true, a20, r20⟩, ⟨23, false, a21, r21⟩, ⟨22, true, a22, r22⟩, ⟨23, false, a23, r23⟩, ⟨22, true, a24, r24⟩, ⟨23, false, a25, r25⟩, ⟨22, true, a26, r26⟩, ⟨23, false, a27, r27⟩, ⟨22, true, a28, r28⟩, ⟨23, false, a29, r29⟩, ⟨22, true, a30, r30⟩, ⟨23, false, a31, r31⟩, ⟨22, true, a32, r32⟩, ⟨23, false, a33, r33⟩, ⟨22, true, a34, r34⟩, ⟨23, false, a35, r35⟩, ⟨22, true, a36, r36⟩, ⟨23, false, a37, r37⟩]
theorem ok0 : TabOK Tryz.prog (compC Tryz.prog (withM T (lookM []))) (withM T (lookM [])) := tabOK_look tabOK trivial
theorem all : AllK T (MemOK Tryz.prog (compC Tryz.prog T)) l := ⟨known mixed ok0 k0, known mixed ok0 k1, known mixed ok0 k2, known mixed ok0 k3, known mixed ok0 k4, known mixed ok0 k5, known mixed ok0 k6, known mixed ok0 k7, known mixed ok0 k8, known mixed ok0 k9, known mixed ok0 k10, known mixed ok0 k11, known mixed ok0 k12, known mixed ok0 k13, known mixed ok0 k14, known mixed ok0 k15, known mixed ok0 k16, known mixed ok0 k17, known mixed ok0 k18, known mixed ok0 k19, known mixed ok0 k20, known mixed ok0 k21, known mixed ok0 k22, known mixed ok0 k23, known mixed ok0 k24, known mixed ok0 k25, known mixed ok0 k26, known mixed ok0 k27, known mixed ok0 k28, known mixed ok0 k29, known mixed ok0 k30, known mixed ok0 k31, known mixed ok0 k32, known mixed ok0 k33, known mixed ok0 k34, known mixed ok0 k35, known mixed ok0 k36, known mixed ok0 k37, trivial⟩
noncomputable def TK : Table := withM T (lookM l)
theorem ok : TabOK Tryz.prog (compC Tryz.prog TK) TK := tabOK_look tabOK all
end Go.Proofs.YtgkokjkoifdbnaaGreat.knReplicaHolds
