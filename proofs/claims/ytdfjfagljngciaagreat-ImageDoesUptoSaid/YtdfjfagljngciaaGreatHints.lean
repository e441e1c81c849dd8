/- The hints of the functions of this translation, printed by a program of this session (wip/tools/mkhints.py): slots that a loop carries and keeps, an order of looking at each region that draws one. -/
import Derived.Test.YtdfjfagljngciaaGreatRx
import Derived.Test.YtdfjfagljngciaaGreatProg
namespace Go.Proofs.YtdfjfagljngciaaGreat
theorem Tryz.mixed : Tryz.prog.follows .mixedOrders = true := by kernel_rfl
/- gosem.cut.init -/
@[go_sem] def h2 : Rx.Hints := {}
/- sump/sumplaw17.RoomGoes -/
@[go_sem] def h3 : Rx.Hints := { rjoins := [(10, ⟨[13], [5, 7, 9]⟩)] }
/- sump/sumplaw17.RoomDoes -/
@[go_sem] def h4 : Rx.Hints := { plans := [(10, .take 0 (.take 1 (.take 3 (.take 4 (.act 2 (.act 5 (.take 6 (.take 7 (.take 8 (.take 9 (.take 10 (.take 11 (.take 12 (.act 13 (.take 14 (.take 15 (.take 16 (.take 17 (.take 18 (.take 19 (.take 20 (.take 21 (.take 22 (.act 23 (.take 24 (.take 25 (.take 26 (.take 27 (.take 28 (.take 29 (.take 31 (.act 30 (.act 32 (.take 33 (.take 34 (.take 35 (.take 36 (.take 37 (.take 38 (.take 39 (.take 41 (.take 42 (.take 43 (.act 40 (.act 44 (.take 45 (.take 46 (.take 47 (.take 48 (.take 49 (.act 50 (.take 51 (.take 52 .done)))))))))))))))))))))))))))))))))))))))))))))))))))))] }
/- sump/sumplaw18.ImageApart -/
@[go_sem] def h5 : Rx.Hints := {}
/- sump/sumplaw18.ImageBack -/
@[go_sem] def h6 : Rx.Hints := { loops := [(7, ⟨[25], [1, 2, 7, 8, 23, 24]⟩)] }
/- sump/sumplaw18.ImageDoes -/
@[go_sem] def h7 : Rx.Hints := { plans := [(9, .take 0 (.take 2 (.act 1 (.act 3 (.act 4 (.take 5 (.take 6 (.take 8 (.act 7 (.act 9 (.act 10 (.take 11 (.take 12 (.take 13 (.take 15 (.act 14 (.act 16 (.take 17 (.take 18 (.take 19 (.take 20 (.act 21 (.take 22 (.take 23 (.take 24 (.take 25 .done))))))))))))))))))))))))))] }
/- sump/sumplaw17.awake -/
@[go_sem] def h8 : Rx.Hints := { plans := [(2, .take 0 (.act 1 (.act 2 (.take 3 (.take 4 (.take 6 (.alt 5 (.act 7 (.act 8 (.take 9 (.take 10 (.take 11 .done))))) (.act 7 (.act 5 (.act 8 (.take 9 (.take 10 (.take 11 .done)))))))))))))] }
/- sump/sumplaw16.Few -/
@[go_sem] def h9 : Rx.Hints := { loops := [(3, ⟨[3, 8], [0, 6, 7]⟩)] }
/- sump/sumpref01.Geom -/
@[go_sem] def h10 : Rx.Hints := {}
/- sump/sumplaw16.Done -/
@[go_sem] def h11 : Rx.Hints := { loops := [(3, ⟨[12], [4, 5, 10, 11]⟩)] }
/- sump/room.Fits -/
@[go_sem] def h12 : Rx.Hints := {}
/- (*sump/state.State).Get -/
@[go_sem] def h13 : Rx.Hints := {}
/- sump/room.Left -/
@[go_sem] def h14 : Rx.Hints := { plans := [(1, .take 0 (.take 1 (.take 2 (.take 3 (.take 6 (.take 7 (.take 8 (.take 9 (.act 4 (.take 5 (.act 10 (.take 11 (.take 12 (.take 13 .done))))))))))))))] }
/- (*sump/state.State).Apply -/
@[go_sem] def h15 : Rx.Hints := {}
/- sump/sumplaw09.Few -/
@[go_sem] def h16 : Rx.Hints := { loops := [(2, ⟨[7], [0, 5, 6]⟩)] }
/- sump/sumpref16.Fits -/
@[go_sem] def h17 : Rx.Hints := { plans := [(1, .take 0 (.take 2 (.take 3 (.take 4 (.act 1 (.take 5 (.take 6 (.take 7 (.take 10 (.take 11 (.take 12 (.act 8 (.take 9 (.take 13 (.take 14 (.take 15 .done))))))))))))))))] }
/- (*sump/sumpref16.State).Words -/
@[go_sem] def h18 : Rx.Hints := { loops := [(3, ⟨[3, 11], [9, 10]⟩)] }
/- (*sump/sumpref16.State).Refs -/
@[go_sem] def h19 : Rx.Hints := { loops := [(3, ⟨[3, 13], [11, 12]⟩), (6, ⟨[3, 20], [11, 12, 13, 18, 19]⟩)] }
/- sump/room.Pages -/
@[go_sem] def h20 : Rx.Hints := {}
/- sump/room.Try -/
@[go_sem] def h21 : Rx.Hints := { loops := [(5, ⟨[10, 21], [3, 8, 9, 19, 20]⟩)], joins := [(8, ⟨[13], [3, 8, 9, 10, 12, 19, 20, 21]⟩)] }
/- sump/sumpref16.Try -/
@[go_sem] def h22 : Rx.Hints := { loops := [(4, ⟨[8, 18], [3, 7, 16, 17]⟩)], joins := [(7, ⟨[11], [3, 7, 8, 10, 16, 17, 18]⟩)] }
/- sump/sumplaw16.Alike -/
@[go_sem] def h23 : Rx.Hints := { blanks := [(7, .take 0 (.take 1 (.take 2 (.take 3 (.take 4 (.take 5 (.act 6 (.act 7 (.fin 8 (.fin 9 (.fin 10 .done)))))))))))] }
/- sump/sumplaw18.awake -/
@[go_sem] def h24 : Rx.Hints := {}
/- sump/sumpref01.SameWords -/
@[go_sem] def h25 : Rx.Hints := { loops := [(4, ⟨[13], [0, 1, 12]⟩)], plans := [(6, .take 0 (.take 1 (.take 2 (.take 3 (.take 4 (.take 5 (.take 6 (.take 7 (.take 8 .done)))))))))] }
/- sump/image.Put -/
@[go_sem] def h26 : Rx.Hints := {}
/- sump/sumpref16.Same -/
@[go_sem] def h27 : Rx.Hints := { loops := [(4, ⟨[33], [0, 1, 32]⟩)], plans := [(1, .take 0 (.take 1 (.take 2 (.take 3 (.take 4 (.take 5 (.take 6 (.take 7 (.take 8 (.take 9 (.take 10 (.take 11 (.take 12 (.take 13 (.take 14 (.take 15 (.take 16 (.take 17 (.take 18 (.take 19 (.take 20 (.take 21 .done)))))))))))))))))))))), (6, .take 0 (.take 1 (.take 2 (.take 3 (.take 4 (.take 5 (.take 6 (.take 7 (.take 8 (.take 9 (.take 10 (.take 11 (.take 12 (.take 13 (.act 14 (.take 15 .done))))))))))))))))] }
/- sump/state.New -/
@[go_sem] def h28 : Rx.Hints := { plans := [(2, .take 0 (.take 1 (.take 2 (.take 3 (.act 4 (.fin 5 .done))))))] }
/- sump/sumpref16.New -/
@[go_sem] def h29 : Rx.Hints := {}
/- (*sump/sumpref16.State).Apply -/
@[go_sem] def h30 : Rx.Hints := { plans := [(7, .take 0 (.take 1 (.take 2 (.take 3 (.take 4 (.take 5 (.take 6 (.take 7 (.take 8 (.take 9 (.take 10 (.take 11 (.fin 12 (.fin 13 (.fin 14 (.fin 15 .done))))))))))))))))] }
/- sump/image.Of -/
@[go_sem] def h31 : Rx.Hints := { loops := [(8, ⟨[9, 10], [0, 6, 7, 8]⟩)] }
/- sump/image.Need -/
@[go_sem] def h32 : Rx.Hints := {}
/- sump/sumpref16.Image -/
@[go_sem] def h33 : Rx.Hints := { loops := [(3, ⟨[3, 23], [21, 22]⟩)], plans := [(1, .take 0 (.take 1 (.take 2 (.take 3 (.take 4 (.take 5 (.take 6 (.take 7 (.take 8 (.take 9 (.take 10 (.act 11 (.take 12 .done)))))))))))))] }
/- sump/image.Node -/
@[go_sem] def h34 : Rx.Hints := {}
/- sump/sumpref16.Node -/
@[go_sem] def h35 : Rx.Hints := { loops := [(3, ⟨[3, 35], [1, 33, 34]⟩), (8, ⟨[3, 48], [46, 47]⟩)], plans := [(10, .take 0 (.take 1 (.take 2 (.take 5 (.take 6 (.take 7 (.alt 3 (.alt 4 (.act 8 (.fin 9 (.fin 10 .done))) (.act 8 (.act 4 (.fin 9 (.fin 10 .done))))) (.act 8 (.act 3 (.act 4 (.fin 9 (.fin 10 .done))))))))))))] }
/- (*sump/state.State).Words -/
@[go_sem] def h36 : Rx.Hints := { plans := [(6, .take 0 (.take 1 (.act 2 (.take 3 (.fin 4 .done)))))] }
/- (*sump/state.State).ok -/
@[go_sem] def h37 : Rx.Hints := {}
/- sump/inode.Copy -/
@[go_sem] def h38 : Rx.Hints := { plans := [(1, .take 0 (.take 1 (.take 3 (.take 4 (.act 2 (.take 6 (.fin 5 (.fin 7 (.fin 8 (.fin 9 .done))))))))))] }
/- sump/effect.Check -/
@[go_sem] def h39 : Rx.Hints := { plans := [(5, .take 0 (.take 1 (.take 2 (.take 3 (.take 4 (.act 5 (.take 6 (.take 7 (.take 8 (.take 9 (.take 10 (.act 11 (.act 12 (.take 13 (.take 14 (.take 15 (.take 16 (.take 17 (.take 18 (.take 19 (.take 20 .done)))))))))))))))))))))] }
/- (*sump/state.State).does -/
@[go_sem] def h40 : Rx.Hints := {}
/- sump/sumpref09.WordsOf -/
@[go_sem] def h41 : Rx.Hints := { loops := [(3, ⟨[3, 13], [11, 12]⟩)] }
/- (*sump/state.State).Refs -/
@[go_sem] def h42 : Rx.Hints := { blanks := [(4, .take 0 (.take 1 (.act 2 (.fin 3 (.fin 4 .done)))))] }
/- sump/room.Try$1 -/
@[go_sem] def h43 : Rx.Hints := {}
/- (*sump/state.State).Copy -/
@[go_sem] def h44 : Rx.Hints := { plans := [(3, .take 0 (.take 1 (.take 2 (.take 3 (.take 5 (.take 6 (.take 7 (.take 8 (.act 4 (.take 9 (.act 10 (.take 11 .done))))))))))))] }
/- (*sump/sumpref16.State).Copy -/
@[go_sem] def h45 : Rx.Hints := { loops := [(3, ⟨[17], [3, 15, 16]⟩)], blanks := [(5, .take 0 (.take 1 (.take 2 (.take 3 (.take 4 (.take 5 (.act 6 (.act 7 (.fin 8 (.fin 9 (.fin 10 (.fin 11 .done))))))))))))] }
/- (*sump/state.State).Last -/
@[go_sem] def h46 : Rx.Hints := {}
/- (*sump/state.State).Nodes -/
@[go_sem] def h47 : Rx.Hints := {}
/- sump/image.put -/
@[go_sem] def h48 : Rx.Hints := { loops := [(3, ⟨[30], [0, 3, 4, 29]⟩), (8, ⟨[40], [0, 3, 4, 38, 39]⟩), (13, ⟨[51], [0, 4, 49, 50]⟩)] }
/- (*sump/words.Writer).Num -/
@[go_sem] def h49 : Rx.Hints := {}
/- sump/check.Seal -/
@[go_sem] def h50 : Rx.Hints := {}
/- (*sump/words.Writer).Words -/
@[go_sem] def h51 : Rx.Hints := {}
/- sump/sumpref09.SameNode -/
@[go_sem] def h52 : Rx.Hints := {}
/- sump/inode.New -/
@[go_sem] def h53 : Rx.Hints := {}
/- sump/sumpref09.Check -/
@[go_sem] def h54 : Rx.Hints := { rjoins := [(1, ⟨[3], [1]⟩), (2, ⟨[4], [1, 3]⟩), (3, ⟨[5], [1, 3, 4]⟩)] }
/- (*sump/sumpref16.State).does -/
@[go_sem] def h55 : Rx.Hints := { loops := [(48, ⟨[16, 255], [253, 254]⟩)], plans := [(4, .take 0 (.take 1 (.take 2 (.act 3 (.take 4 (.take 5 (.take 6 (.take 7 (.take 8 (.take 9 (.take 10 (.act 11 (.take 12 (.take 13 (.take 14 (.take 15 (.take 16 (.take 17 (.take 18 (.take 19 (.take 20 (.take 21 (.take 22 (.take 23 .done)))))))))))))))))))))))), (17, .take 0 (.take 1 (.take 2 (.take 3 (.take 4 (.take 5 (.take 6 (.act 7 (.take 8 (.take 9 (.act 10 (.take 11 (.take 12 (.take 13 (.fin 14 .done))))))))))))))), (31, .take 0 (.take 1 (.take 2 (.take 3 (.take 4 (.take 5 (.take 6 (.fin 7 .done)))))))), (39, .take 0 (.take 1 (.take 2 (.take 3 (.take 4 (.take 5 (.take 6 (.fin 7 .done))))))))], blanks := [(10, .take 0 (.take 1 (.take 2 (.take 3 (.take 4 (.take 5 (.act 6 (.fin 7 (.fin 8 (.fin 9 (.fin 10 .done)))))))))))], joins := [(7, ⟨[], [0, 4, 9]⟩)] }
/- sump/check.Open -/
@[go_sem] def h56 : Rx.Hints := { plans := [(2, .take 0 (.take 1 (.take 2 (.take 3 (.take 4 (.take 5 (.take 6 (.take 8 (.take 9 (.take 10 (.take 11 (.take 12 (.act 7 (.take 13 (.take 14 .done)))))))))))))))] }
/- sump/words.New -/
@[go_sem] def h57 : Rx.Hints := {}
/- (*sump/words.Reader).Num -/
@[go_sem] def h58 : Rx.Hints := {}
/- (*sump/words.Reader).Bad -/
@[go_sem] def h59 : Rx.Hints := {}
/- sump/image.get -/
@[go_sem] def h60 : Rx.Hints := { loops := [(4, ⟨[21], [0, 2, 3, 4, 20]⟩), (10, ⟨[9], [0, 2, 3, 4, 7, 8]⟩), (14, ⟨[10], [0, 2, 3, 4, 8]⟩)], plans := [(12, .take 0 (.take 1 (.take 2 (.act 3 (.act 4 (.fin 5 (.fin 6 (.fin 7 .done)))))))), (17, .take 0 (.take 1 (.take 2 (.take 3 (.act 4 (.take 5 (.act 6 (.fin 7 (.fin 8 (.fin 9 .done))))))))))] }
/- sump/state.Of -/
@[go_sem] def h61 : Rx.Hints := { loops := [(4, ⟨[7, 16], [6, 14, 15]⟩)], plans := [(9, .take 0 (.take 1 (.take 2 (.take 3 (.take 4 (.take 5 (.take 6 (.act 7 (.fin 8 .done)))))))))] }
/- slices.Equal[[]uint64,uint64] -/
@[go_sem] def h62 : Rx.Hints := { loops := [(4, ⟨[13], [0, 1, 12]⟩)], plans := [(6, .take 0 (.take 1 (.take 2 (.take 3 (.take 4 (.take 5 (.take 6 (.take 7 (.take 8 .done)))))))))] }
/- sump/sumpref01.Sum64 -/
@[go_sem] def h63 : Rx.Hints := { loops := [(3, ⟨[3, 8], [6, 7]⟩)] }
/- sump/sumpref01.Text -/
@[go_sem] def h64 : Rx.Hints := {}
/- sump/inode.Words -/
@[go_sem] def h65 : Rx.Hints := { loops := [(3, ⟨[3, 13], [11, 12]⟩)] }
/- slices.Clone[[]int,int] -/
@[go_sem] def h66 : Rx.Hints := {}
/- slices.Clone[[]sump/api.Entry,sump/api.Entry] -/
@[go_sem] def h67 : Rx.Hints := {}
/- sump/effect.right -/
@[go_sem] def h68 : Rx.Hints := { blanks := [(4, .take 0 (.take 1 (.take 2 (.take 3 (.take 4 (.take 5 (.take 6 (.act 7 (.act 8 (.act 9 (.fin 10 (.fin 11 .done)))))))))))), (5, .take 0 (.take 1 (.take 2 (.take 3 (.take 4 (.act 5 (.take 6 (.take 7 (.take 8 (.take 9 (.take 10 (.take 11 (.take 12 (.take 13 (.take 14 (.take 15 (.act 16 (.fin 17 .done)))))))))))))))))), (9, .take 0 (.take 1 (.take 2 (.take 3 (.take 4 (.act 5 (.fin 6 (.fin 7 .done)))))))), (10, .take 0 (.take 1 (.take 2 (.take 3 (.take 4 (.act 5 (.fin 6 (.fin 7 .done)))))))), (12, .take 0 (.take 1 (.take 2 (.take 3 (.take 4 (.take 5 (.take 6 (.take 7 (.take 8 (.act 9 (.act 10 (.act 11 (.act 12 (.act 13 (.fin 14 (.fin 15 .done)))))))))))))))), (13, .take 0 (.take 1 (.take 2 (.take 3 (.take 4 (.act 5 (.take 6 (.take 7 (.take 8 (.take 9 (.take 10 (.act 11 (.take 12 (.fin 13 (.fin 14 .done))))))))))))))), (16, .take 0 (.take 1 (.take 2 (.take 3 (.take 4 (.take 5 (.take 6 (.take 7 (.take 8 (.act 9 (.fin 10 .done))))))))))), (18, .take 0 (.take 1 (.take 2 (.take 3 (.take 4 (.act 5 (.fin 6 (.fin 7 .done)))))))), (19, .take 0 (.take 1 (.take 2 (.take 3 (.take 4 (.take 5 (.take 6 (.take 7 (.take 8 (.take 9 (.take 10 (.take 11 (.take 12 (.take 13 (.take 14 (.take 15 (.take 16 (.take 17 (.take 18 (.take 19 (.take 20 (.take 21 (.act 22 (.fin 23 .done))))))))))))))))))))))))] }
/- sump/effect.node -/
@[go_sem] def h69 : Rx.Hints := {}
/- sump/effect.of -/
@[go_sem] def h70 : Rx.Hints := {}
/- (*sump/state.State).make -/
@[go_sem] def h71 : Rx.Hints := { plans := [(3, .take 0 (.take 1 (.take 2 (.take 3 (.take 4 (.take 5 (.take 6 (.take 7 (.take 8 (.take 9 (.take 10 (.take 11 (.take 12 (.take 13 (.take 14 (.take 15 .done)))))))))))))))), (6, .take 0 (.take 1 (.take 2 (.take 3 (.take 4 (.take 5 (.take 6 (.fin 7 .done)))))))), (7, .take 0 (.take 1 (.take 2 (.take 3 (.take 4 (.take 5 (.take 6 (.take 7 (.take 8 (.take 9 (.take 10 (.take 11 (.act 12 (.fin 13 .done))))))))))))))] }
/- (*sump/state.State).link -/
@[go_sem] def h72 : Rx.Hints := { blanks := [(8, .take 0 (.take 1 (.take 2 (.take 3 (.take 4 (.take 5 (.take 6 (.take 7 (.take 8 (.take 9 (.take 10 (.take 11 (.take 12 (.take 13 (.act 14 (.take 15 (.act 16 (.act 17 (.act 18 (.fin 19 .done))))))))))))))))))))] }
/- (*sump/state.State).remove -/
@[go_sem] def h73 : Rx.Hints := {}
/- (*sump/state.State).rename -/
@[go_sem] def h74 : Rx.Hints := { plans := [(14, .take 0 (.take 1 (.take 2 (.take 3 (.take 4 (.take 5 (.take 6 (.fin 7 .done)))))))), (17, .take 0 (.take 1 (.take 2 (.take 3 (.take 4 (.take 5 (.take 6 (.fin 7 .done)))))))), (21, .take 0 (.take 1 (.take 2 (.take 3 (.take 4 (.take 5 (.take 6 (.fin 7 .done))))))))], joins := [(5, ⟨[], [0, 3, 5, 9, 11]⟩), (7, ⟨[], [0, 3, 5, 9, 11]⟩)] }
/- (*sump/state.State).trunc -/
@[go_sem] def h75 : Rx.Hints := { plans := [(5, .take 0 (.take 1 (.take 2 (.take 3 (.take 4 (.take 5 (.take 6 (.fin 7 .done))))))))] }
/- (*sump/state.State).write -/
@[go_sem] def h76 : Rx.Hints := { plans := [(5, .take 0 (.take 1 (.take 2 (.take 3 (.take 4 (.take 5 (.take 6 (.fin 7 .done))))))))] }
/- (*sump/state.State).drop -/
@[go_sem] def h77 : Rx.Hints := { plans := [(4, .take 0 (.take 1 (.take 2 (.take 3 (.take 4 (.take 5 (.fin 6 .done)))))))] }
/- sump/inode.Refs -/
@[go_sem] def h78 : Rx.Hints := {}
/- maps.Clone[map[int]sump/api.Node,int,sump/api.Node] -/
@[go_sem] def h79 : Rx.Hints := {}
/- sump/sumpref09.CopyNode -/
@[go_sem] def h80 : Rx.Hints := {}
/- (*sump/state.State).Nodes$1 -/
@[go_sem] def h81 : Rx.Hints := { loops := [(1, ⟨[10], [0, 1, 8, 9]⟩)] }
/- (*sump/state.State).numbers -/
@[go_sem] def h82 : Rx.Hints := {}
/- (*sump/words.Writer).Text -/
@[go_sem] def h83 : Rx.Hints := { plans := [(2, .take 0 (.take 1 (.take 2 (.take 3 (.take 4 (.take 5 (.act 6 (.act 7 (.fin 8 (.fin 9 (.fin 10 (.fin 11 .done))))))))))))] }
/- slices.Clone[[]uint64,uint64] -/
@[go_sem] def h84 : Rx.Hints := {}
/- sump/check.Sum -/
@[go_sem] def h85 : Rx.Hints := { loops := [(4, ⟨[11], [3, 4, 9, 10]⟩)] }
/- sump/sumpref01.SameInts -/
@[go_sem] def h86 : Rx.Hints := { loops := [(4, ⟨[13], [0, 1, 12]⟩)], plans := [(6, .take 0 (.take 1 (.take 2 (.take 3 (.take 4 (.take 5 (.take 6 (.take 7 (.take 8 .done)))))))))] }
/- sump/sumpref09.SameEntries -/
@[go_sem] def h87 : Rx.Hints := { loops := [(4, ⟨[13], [0, 1, 12]⟩)], plans := [(6, .take 0 (.take 1 (.take 2 (.take 3 (.take 4 (.take 5 (.take 6 (.take 7 (.act 8 .done)))))))))] }
/- sump/sumpref09.number -/
@[go_sem] def h88 : Rx.Hints := {}
/- sump/sumpref01.Name -/
@[go_sem] def h89 : Rx.Hints := { loops := [(4, ⟨[3], [0]⟩)] }
/- (*sump/sumpref16.State).At -/
@[go_sem] def h90 : Rx.Hints := { loops := [(2, ⟨[12], [1, 10, 11]⟩)] }
/- (*sump/sumpref16.State).kind -/
@[go_sem] def h91 : Rx.Hints := {}
/- (*sump/sumpref16.State).named -/
@[go_sem] def h92 : Rx.Hints := { plans := [(3, .take 0 (.take 1 (.take 2 (.take 3 (.take 4 (.take 5 (.take 10 (.act 6 (.take 7 (.take 8 (.act 9 (.act 11 (.take 12 (.take 13 (.take 14 (.take 15 (.take 16 .done)))))))))))))))))] }
/- (*sump/sumpref16.State).put -/
@[go_sem] def h93 : Rx.Hints := { plans := [(1, .take 0 (.take 1 (.take 2 (.take 3 (.take 4 (.take 5 (.take 6 (.take 7 (.take 8 (.take 9 (.take 10 (.take 11 (.take 12 (.take 13 (.take 14 (.act 15 (.take 16 (.take 17 (.take 18 (.take 19 (.take 20 (.fin 21 .done))))))))))))))))))))))] }
/- (*sump/sumpref16.State).off -/
@[go_sem] def h94 : Rx.Hints := {}
/- (*sump/sumpref16.State).rename -/
@[go_sem] def h95 : Rx.Hints := { plans := [(2, .take 0 (.take 1 (.take 2 (.take 3 (.take 4 (.take 5 (.take 6 (.take 7 (.take 9 (.take 10 (.act 8 (.take 11 (.take 12 (.take 13 (.take 14 (.take 15 (.take 16 (.act 17 (.take 18 (.take 19 (.take 20 (.take 21 (.take 22 (.take 23 (.take 24 (.take 25 (.take 26 (.take 27 (.take 28 (.act 29 (.take 30 (.take 31 .done)))))))))))))))))))))))))))))))), (11, .take 0 (.take 1 (.take 2 (.take 3 (.take 4 (.take 5 (.take 6 (.take 8 (.take 9 (.act 7 (.take 10 (.take 11 (.fin 12 .done)))))))))))))], joins := [(2, ⟨[], [0, 3, 5]⟩), (4, ⟨[], [0, 3, 5]⟩)] }
/- sump/sumpref09.Resize -/
@[go_sem] def h96 : Rx.Hints := { loops := [(8, ⟨[7, 8], [1, 2, 4, 6]⟩)], joins := [(11, ⟨[9], [1, 2, 4, 6, 7, 8]⟩)] }
/- (*sump/sumpref16.State).remove -/
@[go_sem] def h97 : Rx.Hints := { plans := [(1, .take 0 (.take 1 (.take 2 (.take 3 (.take 4 (.take 5 (.take 6 (.take 7 (.take 8 (.take 9 (.take 10 (.take 11 (.take 12 (.take 13 (.take 14 (.fin 15 (.fin 16 (.fin 17 (.fin 18 .done)))))))))))))))))))] }
/- (*sump/words.Reader).take -/
@[go_sem] def h98 : Rx.Hints := {}
/- (*sump/words.Reader).spoil -/
@[go_sem] def h99 : Rx.Hints := {}
/- (*sump/words.Reader).Text -/
@[go_sem] def h100 : Rx.Hints := {}
/- (*sump/state.State).Right -/
@[go_sem] def h101 : Rx.Hints := {}
/- sump/sumpref01.Pack -/
@[go_sem] def h102 : Rx.Hints := { loops := [(3, ⟨[3, 10], [8, 9]⟩), (9, ⟨[6, 7], [3, 4, 8, 9, 10]⟩)], joins := [(5, ⟨[3], [4, 5, 8, 9, 10]⟩)] }
/- sump/words.Need -/
@[go_sem] def h103 : Rx.Hints := {}
/- sump/effect.place -/
@[go_sem] def h104 : Rx.Hints := {}
/- (*sump/state.State).dir -/
@[go_sem] def h105 : Rx.Hints := { blanks := [(2, .take 0 (.take 1 (.take 2 (.take 3 (.take 4 (.take 5 (.take 6 (.act 7 (.fin 8 .done)))))))))] }
/- sump/dirs.Put -/
@[go_sem] def h106 : Rx.Hints := { plans := [(6, .take 0 (.take 2 (.take 3 (.take 4 (.take 5 (.alt 1 (.act 6 (.act 7 (.take 8 (.take 9 .done)))) (.act 6 (.act 1 (.act 7 (.take 8 (.take 9 .done)))))))))))] }
/- (*sump/state.State).file -/
@[go_sem] def h107 : Rx.Hints := { blanks := [(2, .take 0 (.take 1 (.take 2 (.take 3 (.take 4 (.take 5 (.take 6 (.act 7 (.fin 8 .done)))))))))] }
/- (*sump/state.State).may -/
@[go_sem] def h108 : Rx.Hints := {}
/- (*sump/state.State).off -/
@[go_sem] def h109 : Rx.Hints := { plans := [(2, .take 0 (.take 1 (.take 2 (.take 3 (.take 4 (.take 5 (.fin 6 .done))))))), (7, .take 0 (.take 1 (.take 2 (.take 3 (.take 4 (.take 5 (.fin 6 .done)))))))] }
/- sump/dirs.Find -/
@[go_sem] def h110 : Rx.Hints := {}
/- (*sump/state.State).Within -/
@[go_sem] def h111 : Rx.Hints := { loops := [(4, ⟨[1], [0, 2, 16]⟩)] }
/- sump/dirs.Drop -/
@[go_sem] def h112 : Rx.Hints := {}
/- sump/inode.Resize -/
@[go_sem] def h113 : Rx.Hints := { loops := [(10, ⟨[], [2, 4, 6]⟩)] }
/- sump/inode.Put -/
@[go_sem] def h114 : Rx.Hints := {}
/- sump/inode.some -/
@[go_sem] def h115 : Rx.Hints := { scopes := [(1, (0, ⟨[3, 4], [0]⟩))] }
/- slices.Sorted[int] -/
@[go_sem] def h117 : Rx.Hints := {}
/- maps.Keys[map[int]sump/api.Node,int,sump/api.Node] -/
@[go_sem] def h118 : Rx.Hints := {}
/- sump/words.Pack -/
@[go_sem] def h119 : Rx.Hints := { loops := [(3, ⟨[12], [3, 10, 11]⟩)], plans := [(5, .take 0 (.take 1 (.take 2 (.take 3 (.take 4 (.take 5 (.take 6 (.take 7 (.take 8 (.take 9 (.take 10 (.take 11 (.take 12 (.fin 13 .done))))))))))))))] }
/- sump/check.Start -/
@[go_sem] def h120 : Rx.Hints := {}
/- sump/check.Sum$1 -/
@[go_sem] def h121 : Rx.Hints := {}
/- sump/check.More -/
@[go_sem] def h122 : Rx.Hints := {}
/- sump/sumpref09.Find -/
@[go_sem] def h123 : Rx.Hints := { loops := [(2, ⟨[10], [1, 8, 9]⟩)] }
/- sump/sumpref09.PutEntry -/
@[go_sem] def h124 : Rx.Hints := { loops := [(7, ⟨[10, 11, 24], [1, 2, 22, 23]⟩)], joins := [(9, ⟨[10, 11], [1, 2, 13, 22, 23, 24]⟩)] }
/- (*sump/sumpref16.State).cut -/
@[go_sem] def h125 : Rx.Hints := { plans := [(1, .take 0 (.take 1 (.take 2 (.take 3 (.take 4 (.take 5 (.take 6 (.take 7 (.take 8 (.take 9 (.take 10 (.take 11 (.take 12 (.take 13 (.act 14 (.take 15 (.take 16 (.take 17 (.take 18 (.take 19 (.fin 20 .done)))))))))))))))))))))] }
/- (*sump/sumpref16.State).Within -/
@[go_sem] def h126 : Rx.Hints := { loops := [(2, ⟨[1, 12], [0, 2, 11]⟩)], plans := [(5, .take 0 (.take 1 (.act 2 (.take 3 (.take 4 (.take 5 (.take 6 (.take 7 (.take 8 (.take 9 (.take 10 (.take 15 (.act 11 (.take 12 (.take 13 (.act 14 (.take 16 (.take 17 .done)))))))))))))))))), (7, .take 0 (.take 1 (.take 2 (.take 3 (.take 4 (.take 5 (.act 6 (.take 7 (.take 8 (.act 9 (.take 10 .done)))))))))))] }
/- sump/sumpref09.Need -/
@[go_sem] def h127 : Rx.Hints := {}
/- sump/words.Unpack -/
@[go_sem] def h128 : Rx.Hints := { scopes := [(1, (0, ⟨[7], [0, 1, 6]⟩))] }
/- (*sump/state.State).named -/
@[go_sem] def h129 : Rx.Hints := { loops := [(8, ⟨[36], [1, 2, 3, 4, 5, 6, 34, 35]⟩)] }
/- slices.Sort[[]int,int] -/
@[go_sem] def h130 : Rx.Hints := {}
/- slices.Compact[[]int,int] -/
@[go_sem] def h131 : Rx.Hints := { loops := [(4, ⟨[3], [0]⟩), (9, ⟨[3, 5], [0, 4]⟩)], plans := [(6, .take 0 (.take 1 (.take 2 (.take 3 (.take 4 (.take 5 (.take 6 (.take 7 (.take 8 (.take 9 .done)))))))))), (11, .take 0 (.take 1 (.take 2 (.take 3 (.take 4 (.take 5 (.take 6 (.take 7 (.take 8 (.take 9 .done))))))))))] }
/- sump/name.Check -/
@[go_sem] def h132 : Rx.Hints := {}
/- sump/dirs.place -/
@[go_sem] def h133 : Rx.Hints := { loops := [(2, ⟨[9], [1, 7, 8]⟩)] }
/- slices.IndexFunc[[]sump/api.Entry,sump/api.Entry] -/
@[go_sem] def h134 : Rx.Hints := { loops := [(2, ⟨[8], [0, 1, 7]⟩)] }
/- sump/dirs.Put$1 -/
@[go_sem] def h135 : Rx.Hints := {}
/- sump/name.Less -/
@[go_sem] def h136 : Rx.Hints := {}
/- slices.Insert[[]sump/api.Entry,sump/api.Entry] -/
@[go_sem] def h137 : Rx.Hints := { plans := [(11, .take 0 (.take 1 (.take 2 (.take 3 (.take 4 (.take 5 (.take 6 (.take 7 (.fin 8 .done))))))))), (15, .take 0 (.take 1 (.take 2 (.take 3 (.take 4 (.take 5 (.take 6 (.take 7 (.fin 8 .done)))))))))] }
/- slices.DeleteFunc[[]sump/api.Entry,sump/api.Entry] -/
@[go_sem] def h138 : Rx.Hints := { loops := [(5, ⟨[5, 6], [0, 1]⟩)] }
/- sump/dirs.Drop$1 -/
@[go_sem] def h139 : Rx.Hints := {}
/- sump/inode.Need -/
@[go_sem] def h140 : Rx.Hints := {}
/- slices.Collect[int] -/
@[go_sem] def h141 : Rx.Hints := {}
/- maps.Keys[map[int]sump/api.Node,int,sump/api.Node]$1 -/
@[go_sem] def h142 : Rx.Hints := { loops := [(1, ⟨[], [0, 5]⟩)] }
/- sump/sumpref09.DropEntry -/
@[go_sem] def h143 : Rx.Hints := { loops := [(3, ⟨[6, 11], [0, 1, 9, 10]⟩)] }
/- sump/inode.Right -/
@[go_sem] def h144 : Rx.Hints := { plans := [(5, .take 0 (.take 1 (.take 2 (.take 3 (.take 4 (.take 5 (.take 6 (.take 7 (.take 8 (.take 9 (.take 10 (.take 11 (.take 12 (.take 13 (.take 14 (.take 15 (.take 16 (.take 17 (.take 18 (.take 19 (.take 20 (.take 21 (.take 22 (.take 23 (.take 24 (.act 25 (.take 26 (.take 27 (.take 28 .done)))))))))))))))))))))))))))))] }
/- sump/dirs.Right -/
@[go_sem] def h145 : Rx.Hints := { loops := [(2, ⟨[7], [0, 5, 6]⟩)], plans := [(6, .take 0 (.take 1 (.take 2 (.take 3 (.take 4 (.take 5 (.take 6 (.take 7 (.take 8 (.take 9 (.take 10 (.act 11 (.take 12 (.take 13 .done))))))))))))))] }
/- slices.pdqsortOrdered[int] -/
@[go_sem] def h146 : Rx.Hints := { loops := [(2, ⟨[1, 2, 3, 8, 9], [0]⟩)], plans := [(17, .take 0 (.take 1 (.take 2 (.take 3 (.take 4 (.take 5 (.take 6 (.take 7 (.take 8 (.take 9 (.take 10 (.take 11 (.act 12 (.take 13 (.take 14 .done)))))))))))))))] }
/- math/bits.Len -/
@[go_sem] def h147 : Rx.Hints := {}
/- strings.Contains -/
@[go_sem] def h148 : Rx.Hints := {}
/- slices.rotateRight[sump/api.Entry] -/
@[go_sem] def h150 : Rx.Hints := {}
/- slices.AppendSeq[[]int,int] -/
@[go_sem] def h151 : Rx.Hints := {}
/- sump/inode.node -/
@[go_sem] def h152 : Rx.Hints := {}
/- slices.insertionSortOrdered[int] -/
@[go_sem] def h153 : Rx.Hints := { loops := [(1, ⟨[6], [0, 1, 2]⟩), (4, ⟨[7], [0, 1, 2, 6]⟩)], plans := [(4, .take 0 (.take 1 (.take 2 (.take 3 (.take 4 (.take 5 (.take 6 (.take 7 (.take 8 (.take 9 (.take 10 (.take 11 (.take 12 (.act 13 (.take 14 .done))))))))))))))), (6, .take 0 (.take 1 (.take 2 (.take 3 (.take 4 (.take 5 (.take 6 (.take 7 (.take 8 (.take 9 (.take 10 (.take 11 (.take 12 (.take 13 (.take 14 (.fin 15 (.fin 16 (.fin 17 .done))))))))))))))))))] }
/- slices.heapSortOrdered[int] -/
@[go_sem] def h154 : Rx.Hints := { loops := [(4, ⟨[9], [0, 6, 7, 8]⟩), (8, ⟨[10], [0, 6, 7]⟩)], plans := [(10, .take 0 (.take 1 (.take 2 (.take 3 (.take 4 (.take 5 (.take 6 (.take 7 (.take 8 (.take 9 (.take 10 (.take 11 (.take 12 (.take 13 (.take 14 (.take 15 (.take 16 (.fin 17 (.fin 18 (.fin 19 .done))))))))))))))))))))] }
/- slices.breakPatternsOrdered[int] -/
@[go_sem] def h155 : Rx.Hints := { loops := [(5, ⟨[9], [0, 1, 6, 7, 8]⟩)], plans := [(10, .take 0 (.take 1 (.take 2 (.take 3 (.take 4 (.take 5 (.take 6 (.take 7 (.take 8 (.take 9 (.take 10 (.take 11 (.take 12 (.take 13 (.take 14 (.take 15 (.take 16 (.fin 17 (.fin 18 (.fin 19 .done))))))))))))))))))))] }
/- slices.choosePivotOrdered[int] -/
@[go_sem] def h156 : Rx.Hints := {}
/- slices.reverseRangeOrdered[int] -/
@[go_sem] def h157 : Rx.Hints := { loops := [(2, ⟨[6, 7], [0]⟩)], plans := [(3, .take 0 (.take 1 (.take 2 (.take 3 (.take 4 (.take 5 (.take 6 (.take 7 (.take 8 (.take 9 (.take 10 (.take 11 (.take 12 (.fin 13 (.fin 14 (.fin 15 .done))))))))))))))))] }
/- slices.partialInsertionSortOrdered[int] -/
@[go_sem] def h158 : Rx.Hints := { loops := [(3, ⟨[7, 8], [0, 1, 2]⟩), (5, ⟨[7], [0, 1, 2, 8]⟩), (14, ⟨[9], [0, 1, 2, 7, 8]⟩), (20, ⟨[10], [0, 1, 2, 7, 8]⟩)], plans := [(5, .take 0 (.take 1 (.take 2 (.take 3 (.take 4 (.take 5 (.take 6 (.take 7 (.take 8 (.take 9 (.take 10 (.take 11 (.take 12 (.act 13 (.take 14 (.take 15 .done)))))))))))))))), (11, .take 0 (.take 1 (.take 2 (.take 3 (.take 4 (.take 5 (.take 6 (.take 7 (.take 8 (.take 9 (.take 10 (.take 11 (.take 12 (.take 13 (.take 14 (.fin 15 (.fin 16 (.fin 17 .done)))))))))))))))))), (16, .take 0 (.take 1 (.take 2 (.take 3 (.take 4 (.take 5 (.take 6 (.take 7 (.take 8 (.act 9 (.take 10 .done))))))))))), (17, .take 0 (.take 1 (.take 2 (.take 3 (.take 4 (.take 5 (.take 6 (.take 7 (.take 8 (.take 9 (.take 10 (.take 11 (.take 12 (.take 13 (.take 14 (.fin 15 (.fin 16 (.fin 17 .done)))))))))))))))))), (22, .take 0 (.take 1 (.take 2 (.take 3 (.take 4 (.take 5 (.take 6 (.take 7 (.take 8 (.act 9 (.take 10 .done))))))))))), (23, .take 0 (.take 1 (.take 2 (.take 3 (.take 4 (.take 5 (.take 6 (.take 7 (.take 8 (.take 9 (.take 10 (.take 11 (.take 12 (.take 13 (.take 14 (.fin 15 (.fin 16 (.fin 17 .done))))))))))))))))))] }
/- cmp.Less[int] -/
@[go_sem] def h159 : Rx.Hints := {}
/- slices.partitionEqualOrdered[int] -/
@[go_sem] def h160 : Rx.Hints := { loops := [(3, ⟨[9, 10], [0, 1]⟩), (5, ⟨[10], [0, 1, 9]⟩)], plans := [(1, .take 0 (.take 1 (.take 2 (.take 3 (.take 4 (.take 5 (.take 6 (.take 7 (.take 8 (.take 9 (.take 10 (.take 11 (.take 12 (.fin 13 (.fin 14 (.fin 15 .done)))))))))))))))), (3, .take 0 (.take 1 (.take 2 (.take 3 (.take 4 (.take 5 (.take 6 (.take 7 (.take 8 (.take 9 (.take 10 (.take 11 (.act 12 (.take 13 (.take 14 .done))))))))))))))), (5, .take 0 (.take 1 (.take 2 (.take 3 (.take 4 (.take 5 (.take 6 (.take 7 (.take 8 (.take 9 (.take 10 (.take 11 (.act 12 (.take 13 .done)))))))))))))), (8, .take 0 (.take 1 (.take 2 (.take 3 (.take 4 (.take 5 (.take 6 (.take 7 (.take 8 (.take 9 (.take 10 (.take 11 (.take 12 (.fin 13 (.fin 14 (.fin 15 .done))))))))))))))))] }
/- slices.partitionOrdered[int] -/
@[go_sem] def h161 : Rx.Hints := { loops := [(3, ⟨[10], [0, 1, 11]⟩), (5, ⟨[11], [0, 1, 10]⟩), (13, ⟨[10, 11], [0, 1]⟩), (15, ⟨[11], [0, 1, 10]⟩)], plans := [(1, .take 0 (.take 1 (.take 2 (.take 3 (.take 4 (.take 5 (.take 6 (.take 7 (.take 8 (.take 9 (.take 10 (.take 11 (.take 12 (.fin 13 (.fin 14 (.fin 15 .done)))))))))))))))), (3, .take 0 (.take 1 (.take 2 (.take 3 (.take 4 (.take 5 (.take 6 (.take 7 (.take 8 (.take 9 (.take 10 (.take 11 (.act 12 (.take 13 .done)))))))))))))), (5, .take 0 (.take 1 (.take 2 (.take 3 (.take 4 (.take 5 (.take 6 (.take 7 (.take 8 (.take 9 (.take 10 (.take 11 (.act 12 (.take 13 (.take 14 .done))))))))))))))), (8, .take 0 (.take 1 (.take 2 (.take 3 (.take 4 (.take 5 (.take 6 (.take 7 (.take 8 (.take 9 (.take 10 (.take 11 (.take 12 (.fin 13 (.fin 14 (.fin 15 .done)))))))))))))))), (10, .take 0 (.take 1 (.take 2 (.take 3 (.take 4 (.take 5 (.take 6 (.take 7 (.take 8 (.take 9 (.take 10 (.take 11 (.take 12 (.fin 13 (.fin 14 (.fin 15 .done)))))))))))))))), (13, .take 0 (.take 1 (.take 2 (.take 3 (.take 4 (.take 5 (.take 6 (.take 7 (.take 8 (.take 9 (.take 10 (.take 11 (.act 12 (.take 13 .done)))))))))))))), (15, .take 0 (.take 1 (.take 2 (.take 3 (.take 4 (.take 5 (.take 6 (.take 7 (.take 8 (.take 9 (.take 10 (.take 11 (.act 12 (.take 13 (.take 14 .done))))))))))))))), (18, .take 0 (.take 1 (.take 2 (.take 3 (.take 4 (.take 5 (.take 6 (.take 7 (.take 8 (.take 9 (.take 10 (.take 11 (.take 12 (.fin 13 (.fin 14 (.fin 15 .done)))))))))))))))), (21, .take 0 (.take 1 (.take 2 (.take 3 (.take 4 (.take 5 (.take 6 (.take 7 (.take 8 (.take 9 (.take 10 (.take 11 (.take 12 (.fin 13 (.fin 14 (.fin 15 .done))))))))))))))))] }
/- math/bits.Len32 -/
@[go_sem] def h162 : Rx.Hints := {}
/- math/bits.Len64 -/
@[go_sem] def h163 : Rx.Hints := {}
/- strings.Index -/
@[go_sem] def h164 : Rx.Hints := {}
/- slices.rotateLeft[sump/api.Entry] -/
@[go_sem] def h165 : Rx.Hints := {}
/- slices.siftDownOrdered[int] -/
@[go_sem] def h166 : Rx.Hints := { loops := [(1, ⟨[8], [0, 2, 3]⟩)], plans := [(3, .take 0 (.take 1 (.take 2 (.take 3 (.take 4 (.take 5 (.take 6 (.take 7 (.take 8 (.take 9 (.take 10 (.take 11 (.take 12 (.take 13 (.take 14 (.take 15 (.take 16 (.take 17 (.act 18 (.take 19 .done)))))))))))))))))))), (5, .take 0 (.take 1 (.take 2 (.take 3 (.take 4 (.take 5 (.take 6 (.take 7 (.take 8 (.take 9 (.take 10 (.take 11 (.act 12 (.take 13 .done)))))))))))))), (6, .take 0 (.take 1 (.take 2 (.take 3 (.take 4 (.take 5 (.take 6 (.take 7 (.take 8 (.take 9 (.take 10 (.take 11 (.take 12 (.take 13 (.take 14 (.take 15 (.take 16 (.take 17 (.take 18 (.take 19 (.take 20 (.fin 21 (.fin 22 (.fin 23 .done))))))))))))))))))))))))] }
/- slices.nextPowerOfTwo -/
@[go_sem] def h167 : Rx.Hints := {}
/- (*slices.xorshift).Next -/
@[go_sem] def h168 : Rx.Hints := { plans := [(1, .take 0 (.take 1 (.take 2 (.take 3 (.take 4 (.take 5 (.take 6 (.take 7 (.take 8 (.fin 9 .done)))))))))), (2, .take 0 (.take 1 (.take 2 (.take 3 (.take 4 (.take 5 (.take 6 (.take 7 (.take 8 (.fin 9 .done)))))))))), (3, .take 0 (.take 1 (.take 2 (.take 3 (.take 4 (.take 5 (.take 6 (.take 7 (.take 8 (.fin 9 .done))))))))))] }
/- slices.medianAdjacentOrdered[int] -/
@[go_sem] def h169 : Rx.Hints := {}
/- slices.medianOrdered[int] -/
@[go_sem] def h170 : Rx.Hints := {}
/- cmp.isNaN[int] -/
@[go_sem] def h171 : Rx.Hints := {}
/- internal/stringslite.Index -/
@[go_sem] def h172 : Rx.Hints := { loops := [(15, ⟨[8, 10], [0, 1, 5, 6, 7, 9]⟩)] }
/- slices.Reverse[[]sump/api.Entry,sump/api.Entry] -/
@[go_sem] def h173 : Rx.Hints := { loops := [(1, ⟨[2, 3], [0]⟩)], plans := [(3, .take 0 (.take 1 (.take 2 (.take 3 (.take 4 (.take 5 (.take 6 (.take 7 (.take 8 (.take 9 (.take 10 (.take 11 (.take 12 (.fin 13 (.fin 14 (.fin 15 .done))))))))))))))))] }
/- slices.order2Ordered[int] -/
@[go_sem] def h174 : Rx.Hints := { plans := [(1, .take 0 (.take 1 (.take 2 (.take 3 (.take 4 (.take 5 (.take 6 (.take 7 (.act 8 .done)))))))))] }
/- internal/stringslite.IndexByte -/
@[go_sem] def h175 : Rx.Hints := {}
/- internal/bytealg.Cutover -/
@[go_sem] def h177 : Rx.Hints := {}
/- internal/bytealg.IndexRabinKarp[string] -/
@[go_sem] def h178 : Rx.Hints := { loops := [(5, ⟨[8, 9], [0, 1, 5, 6, 7]⟩), (11, ⟨[8, 10], [0, 1, 5, 6, 7]⟩)] }
/- internal/bytealg.hashStr[string] -/
@[go_sem] def h180 : Rx.Hints := { loops := [(3, ⟨[4, 5], [0]⟩), (8, ⟨[6, 7, 8], [4]⟩)] }
end Go.Proofs.YtdfjfagljngciaaGreat
